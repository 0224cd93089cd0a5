/- container/heap: down. -/
import Derived.Test.YtogelnljkdcajaaHeap2
namespace Go.Proofs.Ytogelnljkdcajaa
open Go.RowKit Go.Sort
set_option linter.unusedVariables false
set_option linter.unusedSimpArgs false

structure DnI (w wz : World) (base tb mb : Nat) (lv : Value) (L : List TV) (n i0 : Nat) (L1 : List TV) (q : Nat) : Prop where
  st : StT wz base tb mb lv L1
  pm : L1.Perm L
  win : WInv (gt L1) n q
  hi : ∀ i, n ≤ i → gt L1 i = gt L i
  fr : Fr (fun j => j = mb ∨ lv.ownBlock = some j) w wz
  mv : (q = i0 ∧ L1 = L) ∨ (i0 < q ∧ leT (gt L1 ((q - 1) / 2)) (gt L1 q))
structure DnR (w wz : World) (base tb mb : Nat) (lv : Value) (L : List TV) (n i0 : Nat) (L1 : List TV) (b : Bool) : Prop where
  st : StT wz base tb mb lv L1
  pm : L1.Perm L
  hi : ∀ i, n ≤ i → gt L1 i = gt L i
  fr : Fr (fun j => j = mb ∨ lv.ownBlock = some j) w wz
  no : b = false → L1 = L ∧ UpInv (gt L) n i0
  yes : b = true → HeapN (gt L1) n
theorem DnI.done {w wz wy : World} {base tb mb n i0 q : Nat} {lv : Value} {L L1 : List TV} (h : DnI w wz base tb mb lv L n i0 L1 q) (hb : Below wz.heap.size wz wy) (hc : ∀ i, 0 < i → i < n → (i - 1) / 2 = q → leT (gt L1 q) (gt L1 i)) :
    DnR w wy base tb mb lv L n i0 L1 (decide (i0 < q)) := by
  have hu := h.win.done hc
  refine ⟨h.st.below hb, h.pm, h.hi, h.fr.trans (Fr.of_below hb : Fr (fun j => j = mb ∨ lv.ownBlock = some j) wz wy) (fun _ _ h => h), fun hd => ?_, fun hd => ?_⟩
  · have h1 := of_decide_eq_false hd
    rcases h.mv with ⟨h2, h3⟩ | ⟨h2, h3⟩
    · subst h2
      subst h3
      exact ⟨rfl, hu⟩
    · omega
  · have h1 := of_decide_eq_true hd
    rcases h.mv with ⟨h2, h3⟩ | ⟨h2, h3⟩
    · omega
    · exact hu.done (fun _ => h3)
theorem DnI.step {w wz wx wy : World} {base tb mb n i0 q c : Nat} {lv : Value} {L L1 L2 : List TV} (h : DnI w wz base tb mb lv L n i0 L1 q) (hb : Below wz.heap.size wz wx)
    (hs : StT wy base tb mb lv L2) (hp : L2.Perm L1) (hg : gt L2 = swF (gt L1) q c) (hf : Fr (fun j => j = mb ∨ lv.ownBlock = some j) wx wy)
    (hc : c < n) (hcj : (c - 1) / 2 = q) (h0c : 0 < c) (hmin : ∀ i, 0 < i → i < n → (i - 1) / 2 = q → leT (gt L1 c) (gt L1 i)) (hl : leT (gt L1 c) (gt L1 q)) : DnI w wy base tb mb lv L n i0 L2 c := by
  obtain ⟨h1, h2, h3⟩ := h.win.step hc hcj h0c hmin hl
  refine ⟨hs, hp.trans h.pm, by rw [hg]; exact h1, fun i hi => ?_, (h.fr.trans (Fr.of_below hb : Fr (fun j => j = mb ∨ lv.ownBlock = some j) wz wx) (fun _ _ h => h)).trans hf (fun _ _ h => h), .inr ⟨?_, ?_⟩⟩
  · rw [hg]
    unfold swF
    rw [if_neg (by omega), if_neg (by omega)]
    exact h.hi i hi
  · rcases h.mv with ⟨h4, _⟩ | ⟨h4, _⟩ <;> omega
  · rw [hg]; exact h2
def DnPost (w : World) (base tb mb : Nat) (lv : Value) (L : List TV) (n i0 : Nat) (e : Ending) (w' : World) : Prop := ∃ b L', e = .returned (.bool b) ∧ DnR w w' base tb mb lv L n i0 L' b

set_option maxRecDepth 100000 in
set_option maxHeartbeats 8000000 in
theorem down_any (w : World) (base tb mb : Nat) (lv : Value) (L : List TV) (n i0 : Nat) (h : StT w base tb mb lv L) (hn : n ≤ L.length) (hi : i0 ≤ 1000000) (hN : n ≤ 1000000) (hu : WInv (gt L) n i0) :
    Calls Try.prog 47 #[.iface 65 (.pointer (some ⟨tb, 0, none⟩)), .int .i64 i0, .int .i64 n] w (DnPost w base tb mb lv L n i0) := by
  have HI : Hid (DnI w w base tb mb lv L n i0 L i0) := ⟨h, List.Perm.refl _, hu, fun _ _ => rfl, Fr.refl _ w, .inl ⟨rfl, rfl⟩⟩
  have hm : ∀ W : World, (method 249 65 (.pointer (some ⟨tb, 0, none⟩)) "Less").run Try.prog W = .ok (92, .pointer (some ⟨tb, 0, none⟩)) W := fun _ => by kernel_rfl
  have hm2 : ∀ W : World, (method 249 65 (.pointer (some ⟨tb, 0, none⟩)) "Swap").run Try.prog W = .ok (95, .pointer (some ⟨tb, 0, none⟩)) W := fun _ => by kernel_rfl
  clear h hu
  go_enter Try.func47, Try.ntmps47
  go_wp2_with fail
  go_loopw [7] (fun i wz => ∃ (L1 : List TV) (q : Nat), i = .int .i64 q ∧ q ≤ 1000000 ∧ Hid (DnI w wz base tb mb lv L n i0 L1 q)) (fun i _ => n - (intOf i).toNat)
  case atStart => exact ⟨L, i0, rfl, hi, HI.out⟩
  case round =>
    obtain ⟨L1, q, rfl, hq, HR⟩ := hrel
    have HL1 : Hid (L1.length = L.length) := HR.out.pm.length_eq
    obtain ⟨c1, hc1⟩ : ∃ c1, c1 = 2 * q + 1 := ⟨_, rfl⟩
    have HE1 : Hid (2 * (q : Int) + 1 = (c1 : Int)) := by show _ = _; omega
    have e0 : (2 * (q : Int) + 1 < 0) = False := eq_false (by omega)
    by_cases h1 : n ≤ c1
    · have HDN := hide (HR.out.done (Below.refl _ _) (fun i h0 h2 h3 => by omega))
      have e2 : ((n : Int) ≤ 2 * (q : Int) + 1) = True := eq_true (by omega)
      go_wp2_with fail
      go_ret
      exact ⟨_, L1, rfl, HDN.out⟩
    · have e2 : ((n : Int) ≤ 2 * (q : Int) + 1) = False := eq_false (by omega)
      by_cases h2 : c1 + 1 < n
      · obtain ⟨c2, hc2⟩ : ∃ c2, c2 = c1 + 1 := ⟨_, rfl⟩
        have HE2 : Hid (2 * (q : Int) + 1 + 1 = (c2 : Int)) := by show _ = _; omega
        have e4 : (2 * (q : Int) + 1 + 1 < (n : Int)) = True := eq_true (by omega)
        go_wp2_with fail
        rw [HE2.out, HE1.out]
        have hc1a : 2 * q + 1 ≤ c1 := by omega
        have hc1b : c1 ≤ 2 * q + 1 := by omega
        have hc2a : c1 + 1 ≤ c2 := by omega
        have hc2b : c2 ≤ c1 + 1 := by omega
        clear hc1 hc2 e0 e2 e4
        refine (stless c2 c1 HR.out.st (by rw [HL1.out]; omega) (by rw [HL1.out]; omega)).mono ?_
        obtain ⟨b1, hb1⟩ : ∃ b, b = ltT (gt L1 c2) (gt L1 c1) := ⟨_, rfl⟩
        rw [← hb1]
        have HB1 := hide hb1
        clear hb1
        rintro e w2 ⟨rfl, hb2⟩
        have HB2 := hide hb2
        clear hb2
        cases b1
        · go_wp2_with fail
          refine (stless c1 q (HR.out.st.below HB2.out) (by rw [HL1.out]; omega) (by rw [HL1.out]; omega)).mono ?_
          obtain ⟨b, hb⟩ : ∃ b, b = ltT (gt L1 c1) (gt L1 q) := ⟨_, rfl⟩
          rw [← hb]
          have HBB := hide hb
          have HMIN : Hid (∀ i, 0 < i → i < n → (i - 1) / 2 = q → leT (gt L1 c1) (gt L1 i)) := fun i h0 h1 h2 => by
                      rcases (show i = c1 ∨ i = c2 by omega) with rfl | rfl
                      · exact leT_refl _
                      · exact nlt_le HB1.out.symm
          clear hb
          rintro e w4 ⟨rfl, hb4⟩
          have HB4 := hide (HB2.out.trans (hb4.mono HB2.out.size))
          clear hb4
          cases b
          · have HDN := hide (HR.out.done HB4.out (fun i h0 h1 h2 => leT_trans (nlt_le HBB.out.symm) (HMIN.out i h0 h1 h2)))
            go_wp2_with fail
            go_ret
            exact ⟨_, L1, rfl, HDN.out⟩
          · go_wp2_with fail
            refine (stswap q c1 (HR.out.st.below HB4.out) (by rw [HL1.out]; omega) (by rw [HL1.out]; omega)).mono ?_
            rintro e w5 ⟨rfl, L2, hs5, hp5, hg5, hf5⟩
            have HI5 := hide (HR.out.step HB4.out hs5 hp5 hg5 hf5 (by omega) (by omega) (by omega) HMIN.out (ltT_le HBB.out.symm))
            clear hs5 hp5 hg5 hf5
            go_wp2_with fail
            go_roundw
            · exact ⟨L2, c1, rfl, by omega, HI5⟩
            · show n - (c1 : Int).toNat < n - (q : Int).toNat
              omega
        · go_wp2_with fail
          refine (stless c2 q (HR.out.st.below HB2.out) (by rw [HL1.out]; omega) (by rw [HL1.out]; omega)).mono ?_
          obtain ⟨b, hb⟩ : ∃ b, b = ltT (gt L1 c2) (gt L1 q) := ⟨_, rfl⟩
          rw [← hb]
          have HBB := hide hb
          have HMIN : Hid (∀ i, 0 < i → i < n → (i - 1) / 2 = q → leT (gt L1 c2) (gt L1 i)) := fun i h0 h1 h2 => by
                      rcases (show i = c1 ∨ i = c2 by omega) with rfl | rfl
                      · exact ltT_le HB1.out.symm
                      · exact leT_refl _
          clear hb
          rintro e w4 ⟨rfl, hb4⟩
          have HB4 := hide (HB2.out.trans (hb4.mono HB2.out.size))
          clear hb4
          cases b
          · have HDN := hide (HR.out.done HB4.out (fun i h0 h1 h2 => leT_trans (nlt_le HBB.out.symm) (HMIN.out i h0 h1 h2)))
            go_wp2_with fail
            go_ret
            exact ⟨_, L1, rfl, HDN.out⟩
          · go_wp2_with fail
            refine (stswap q c2 (HR.out.st.below HB4.out) (by rw [HL1.out]; omega) (by rw [HL1.out]; omega)).mono ?_
            rintro e w5 ⟨rfl, L2, hs5, hp5, hg5, hf5⟩
            have HI5 := hide (HR.out.step HB4.out hs5 hp5 hg5 hf5 (by omega) (by omega) (by omega) HMIN.out (ltT_le HBB.out.symm))
            clear hs5 hp5 hg5 hf5
            go_wp2_with fail
            go_roundw
            · exact ⟨L2, c2, rfl, by omega, HI5⟩
            · show n - (c2 : Int).toNat < n - (q : Int).toNat
              omega
      · have e4 : (2 * (q : Int) + 1 + 1 < (n : Int)) = False := eq_false (by omega)
        have HB2 : Hid (Below wr.heap.size wr wr) := Below.refl _ _
        go_wp2_with fail
        rw [HE1.out]
        have hc1a : 2 * q + 1 ≤ c1 := by omega
        have hc1b : c1 ≤ 2 * q + 1 := by omega
        clear hc1 e0 e2 e4
        refine (stless c1 q (HR.out.st.below HB2.out) (by rw [HL1.out]; omega) (by rw [HL1.out]; omega)).mono ?_
        obtain ⟨b, hb⟩ : ∃ b, b = ltT (gt L1 c1) (gt L1 q) := ⟨_, rfl⟩
        rw [← hb]
        have HBB := hide hb
        have HMIN : Hid (∀ i, 0 < i → i < n → (i - 1) / 2 = q → leT (gt L1 c1) (gt L1 i)) := fun i h0 h1 h2 => by
                    obtain rfl : i = c1 := by omega
                    exact leT_refl _
        clear hb
        rintro e w4 ⟨rfl, hb4⟩
        have HB4 := hide (HB2.out.trans (hb4.mono HB2.out.size))
        clear hb4
        cases b
        · have HDN := hide (HR.out.done HB4.out (fun i h0 h1 h2 => leT_trans (nlt_le HBB.out.symm) (HMIN.out i h0 h1 h2)))
          go_wp2_with fail
          go_ret
          exact ⟨_, L1, rfl, HDN.out⟩
        · go_wp2_with fail
          refine (stswap q c1 (HR.out.st.below HB4.out) (by rw [HL1.out]; omega) (by rw [HL1.out]; omega)).mono ?_
          rintro e w5 ⟨rfl, L2, hs5, hp5, hg5, hf5⟩
          have HI5 := hide (HR.out.step HB4.out hs5 hp5 hg5 hf5 (by omega) (by omega) (by omega) HMIN.out (ltT_le HBB.out.symm))
          clear hs5 hp5 hg5 hf5
          go_wp2_with fail
          go_roundw
          · exact ⟨L2, c1, rfl, by omega, HI5⟩
          · show n - (c1 : Int).toNat < n - (q : Int).toNat
            omega

end Go.Proofs.Ytogelnljkdcajaa
