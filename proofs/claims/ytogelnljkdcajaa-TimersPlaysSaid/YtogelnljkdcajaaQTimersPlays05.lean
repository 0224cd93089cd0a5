/- container/heap: down. / container/heap: Push, Pop, Remove. / timers.Heap: right, ContainsFunc; New, Len. / slices.ContainsFunc at timers. -/
import Derived.Test.YtogelnljkdcajaaQTimersPlays04
import Derived.Test.YtogelnljkdcajaaQTimersPlays01

namespace Go.Proofs.Ytogelnljkdcajaa
open Go.RowKit Go.Sort
set_option linter.unusedVariables false
set_option linter.unusedSimpArgs false

structure DnI (w wz : World) (base tb mb : Nat) (lv : Value) (L : List TV) (n i0 : Nat) (L1 : List TV) (q : Nat) : Prop where
  st : StT wz base tb mb lv L1
  pm : L1.Perm L
  win : WInv (gt L1) n q
  hi : ∀ i, n ≤ i → gt L1 i = gt L i
  fr : Fr (fun j => j = mb ∨ lv.ownBlock = some j) w wz
  mv : (q = i0 ∧ L1 = L) ∨ (i0 < q ∧ leT (gt L1 ((q - 1) / 2)) (gt L1 q))
structure DnR (w wz : World) (base tb mb : Nat) (lv : Value) (L : List TV) (n i0 : Nat) (L1 : List TV) (b : Bool) : Prop where
  st : StT wz base tb mb lv L1
  pm : L1.Perm L
  hi : ∀ i, n ≤ i → gt L1 i = gt L i
  fr : Fr (fun j => j = mb ∨ lv.ownBlock = some j) w wz
  no : b = false → L1 = L ∧ UpInv (gt L) n i0
  yes : b = true → HeapN (gt L1) n
theorem DnI.done {w wz wy : World} {base tb mb n i0 q : Nat} {lv : Value} {L L1 : List TV} (h : DnI w wz base tb mb lv L n i0 L1 q) (hb : Below wz.heap.size wz wy) (hc : ∀ i, 0 < i → i < n → (i - 1) / 2 = q → leT (gt L1 q) (gt L1 i)) :
    DnR w wy base tb mb lv L n i0 L1 (decide (i0 < q)) := by
  have hu := h.win.done hc
  refine ⟨h.st.below hb, h.pm, h.hi, h.fr.trans (Fr.of_below hb : Fr (fun j => j = mb ∨ lv.ownBlock = some j) wz wy) (fun _ _ h => h), fun hd => ?_, fun hd => ?_⟩
  · have h1 := of_decide_eq_false hd
    rcases h.mv with ⟨h2, h3⟩ | ⟨h2, h3⟩
    · subst h2
      subst h3
      exact ⟨rfl, hu⟩
    · omega
  · have h1 := of_decide_eq_true hd
    rcases h.mv with ⟨h2, h3⟩ | ⟨h2, h3⟩
    · omega
    · exact hu.done (fun _ => h3)
theorem DnI.step {w wz wx wy : World} {base tb mb n i0 q c : Nat} {lv : Value} {L L1 L2 : List TV} (h : DnI w wz base tb mb lv L n i0 L1 q) (hb : Below wz.heap.size wz wx)
    (hs : StT wy base tb mb lv L2) (hp : L2.Perm L1) (hg : gt L2 = swF (gt L1) q c) (hf : Fr (fun j => j = mb ∨ lv.ownBlock = some j) wx wy)
    (hc : c < n) (hcj : (c - 1) / 2 = q) (h0c : 0 < c) (hmin : ∀ i, 0 < i → i < n → (i - 1) / 2 = q → leT (gt L1 c) (gt L1 i)) (hl : leT (gt L1 c) (gt L1 q)) : DnI w wy base tb mb lv L n i0 L2 c := by
  obtain ⟨h1, h2, h3⟩ := h.win.step hc hcj h0c hmin hl
  refine ⟨hs, hp.trans h.pm, by rw [hg]; exact h1, fun i hi => ?_, (h.fr.trans (Fr.of_below hb : Fr (fun j => j = mb ∨ lv.ownBlock = some j) wz wx) (fun _ _ h => h)).trans hf (fun _ _ h => h), .inr ⟨?_, ?_⟩⟩
  · rw [hg]
    unfold swF
    rw [if_neg (by omega), if_neg (by omega)]
    exact h.hi i hi
  · rcases h.mv with ⟨h4, _⟩ | ⟨h4, _⟩ <;> omega
  · rw [hg]; exact h2
def DnPost (w : World) (base tb mb : Nat) (lv : Value) (L : List TV) (n i0 : Nat) (e : Ending) (w' : World) : Prop := ∃ b L', e = .returned (.bool b) ∧ DnR w w' base tb mb lv L n i0 L' b

set_option maxRecDepth 100000 in
set_option maxHeartbeats 8000000 in
theorem down_any (w : World) (base tb mb : Nat) (lv : Value) (L : List TV) (n i0 : Nat) (h : StT w base tb mb lv L) (hn : n ≤ L.length) (hi : i0 ≤ 1000000) (hN : n ≤ 1000000) (hu : WInv (gt L) n i0) :
    Calls Try.prog 47 #[.iface 65 (.pointer (some ⟨tb, 0, none⟩)), .int .i64 i0, .int .i64 n] w (DnPost w base tb mb lv L n i0) := by
  have HI : Hid (DnI w w base tb mb lv L n i0 L i0) := ⟨h, List.Perm.refl _, hu, fun _ _ => rfl, Fr.refl _ w, .inl ⟨rfl, rfl⟩⟩
  have hm : ∀ W : World, (method 249 65 (.pointer (some ⟨tb, 0, none⟩)) "Less").run Try.prog W = .ok (92, .pointer (some ⟨tb, 0, none⟩)) W := fun _ => by kernel_rfl
  have hm2 : ∀ W : World, (method 249 65 (.pointer (some ⟨tb, 0, none⟩)) "Swap").run Try.prog W = .ok (95, .pointer (some ⟨tb, 0, none⟩)) W := fun _ => by kernel_rfl
  clear h hu
  go_enter Try.func47, Try.ntmps47
  go_wp2_with fail
  go_loopw [7] (fun i wz => ∃ (L1 : List TV) (q : Nat), i = .int .i64 q ∧ q ≤ 1000000 ∧ Hid (DnI w wz base tb mb lv L n i0 L1 q)) (fun i _ => n - (intOf i).toNat)
  case atStart => exact ⟨L, i0, rfl, hi, HI.out⟩
  case round =>
    obtain ⟨L1, q, rfl, hq, HR⟩ := hrel
    have HL1 : Hid (L1.length = L.length) := HR.out.pm.length_eq
    obtain ⟨c1, hc1⟩ : ∃ c1, c1 = 2 * q + 1 := ⟨_, rfl⟩
    have HE1 : Hid (2 * (q : Int) + 1 = (c1 : Int)) := by show _ = _; omega
    have e0 : (2 * (q : Int) + 1 < 0) = False := eq_false (by omega)
    by_cases h1 : n ≤ c1
    · have HDN := hide (HR.out.done (Below.refl _ _) (fun i h0 h2 h3 => by omega))
      have e2 : ((n : Int) ≤ 2 * (q : Int) + 1) = True := eq_true (by omega)
      go_wp2_with fail
      go_ret
      exact ⟨_, L1, rfl, HDN.out⟩
    · have e2 : ((n : Int) ≤ 2 * (q : Int) + 1) = False := eq_false (by omega)
      by_cases h2 : c1 + 1 < n
      · obtain ⟨c2, hc2⟩ : ∃ c2, c2 = c1 + 1 := ⟨_, rfl⟩
        have HE2 : Hid (2 * (q : Int) + 1 + 1 = (c2 : Int)) := by show _ = _; omega
        have e4 : (2 * (q : Int) + 1 + 1 < (n : Int)) = True := eq_true (by omega)
        go_wp2_with fail
        rw [HE2.out, HE1.out]
        have hc1a : 2 * q + 1 ≤ c1 := by omega
        have hc1b : c1 ≤ 2 * q + 1 := by omega
        have hc2a : c1 + 1 ≤ c2 := by omega
        have hc2b : c2 ≤ c1 + 1 := by omega
        clear hc1 hc2 e0 e2 e4
        refine (stless c2 c1 HR.out.st (by rw [HL1.out]; omega) (by rw [HL1.out]; omega)).mono ?_
        obtain ⟨b1, hb1⟩ : ∃ b, b = ltT (gt L1 c2) (gt L1 c1) := ⟨_, rfl⟩
        rw [← hb1]
        have HB1 := hide hb1
        clear hb1
        rintro e w2 ⟨rfl, hb2⟩
        have HB2 := hide hb2
        clear hb2
        cases b1
        · go_wp2_with fail
          refine (stless c1 q (HR.out.st.below HB2.out) (by rw [HL1.out]; omega) (by rw [HL1.out]; omega)).mono ?_
          obtain ⟨b, hb⟩ : ∃ b, b = ltT (gt L1 c1) (gt L1 q) := ⟨_, rfl⟩
          rw [← hb]
          have HBB := hide hb
          have HMIN : Hid (∀ i, 0 < i → i < n → (i - 1) / 2 = q → leT (gt L1 c1) (gt L1 i)) := fun i h0 h1 h2 => by
                      rcases (show i = c1 ∨ i = c2 by omega) with rfl | rfl
                      · exact leT_refl _
                      · exact nlt_le HB1.out.symm
          clear hb
          rintro e w4 ⟨rfl, hb4⟩
          have HB4 := hide (HB2.out.trans (hb4.mono HB2.out.size))
          clear hb4
          cases b
          · have HDN := hide (HR.out.done HB4.out (fun i h0 h1 h2 => leT_trans (nlt_le HBB.out.symm) (HMIN.out i h0 h1 h2)))
            go_wp2_with fail
            go_ret
            exact ⟨_, L1, rfl, HDN.out⟩
          · go_wp2_with fail
            refine (stswap q c1 (HR.out.st.below HB4.out) (by rw [HL1.out]; omega) (by rw [HL1.out]; omega)).mono ?_
            rintro e w5 ⟨rfl, L2, hs5, hp5, hg5, hf5⟩
            have HI5 := hide (HR.out.step HB4.out hs5 hp5 hg5 hf5 (by omega) (by omega) (by omega) HMIN.out (ltT_le HBB.out.symm))
            clear hs5 hp5 hg5 hf5
            go_wp2_with fail
            go_roundw
            · exact ⟨L2, c1, rfl, by omega, HI5⟩
            · show n - (c1 : Int).toNat < n - (q : Int).toNat
              omega
        · go_wp2_with fail
          refine (stless c2 q (HR.out.st.below HB2.out) (by rw [HL1.out]; omega) (by rw [HL1.out]; omega)).mono ?_
          obtain ⟨b, hb⟩ : ∃ b, b = ltT (gt L1 c2) (gt L1 q) := ⟨_, rfl⟩
          rw [← hb]
          have HBB := hide hb
          have HMIN : Hid (∀ i, 0 < i → i < n → (i - 1) / 2 = q → leT (gt L1 c2) (gt L1 i)) := fun i h0 h1 h2 => by
                      rcases (show i = c1 ∨ i = c2 by omega) with rfl | rfl
                      · exact ltT_le HB1.out.symm
                      · exact leT_refl _
          clear hb
          rintro e w4 ⟨rfl, hb4⟩
          have HB4 := hide (HB2.out.trans (hb4.mono HB2.out.size))
          clear hb4
          cases b
          · have HDN := hide (HR.out.done HB4.out (fun i h0 h1 h2 => leT_trans (nlt_le HBB.out.symm) (HMIN.out i h0 h1 h2)))
            go_wp2_with fail
            go_ret
            exact ⟨_, L1, rfl, HDN.out⟩
          · go_wp2_with fail
            refine (stswap q c2 (HR.out.st.below HB4.out) (by rw [HL1.out]; omega) (by rw [HL1.out]; omega)).mono ?_
            rintro e w5 ⟨rfl, L2, hs5, hp5, hg5, hf5⟩
            have HI5 := hide (HR.out.step HB4.out hs5 hp5 hg5 hf5 (by omega) (by omega) (by omega) HMIN.out (ltT_le HBB.out.symm))
            clear hs5 hp5 hg5 hf5
            go_wp2_with fail
            go_roundw
            · exact ⟨L2, c2, rfl, by omega, HI5⟩
            · show n - (c2 : Int).toNat < n - (q : Int).toNat
              omega
      · have e4 : (2 * (q : Int) + 1 + 1 < (n : Int)) = False := eq_false (by omega)
        have HB2 : Hid (Below wr.heap.size wr wr) := Below.refl _ _
        go_wp2_with fail
        rw [HE1.out]
        have hc1a : 2 * q + 1 ≤ c1 := by omega
        have hc1b : c1 ≤ 2 * q + 1 := by omega
        clear hc1 e0 e2 e4
        refine (stless c1 q (HR.out.st.below HB2.out) (by rw [HL1.out]; omega) (by rw [HL1.out]; omega)).mono ?_
        obtain ⟨b, hb⟩ : ∃ b, b = ltT (gt L1 c1) (gt L1 q) := ⟨_, rfl⟩
        rw [← hb]
        have HBB := hide hb
        have HMIN : Hid (∀ i, 0 < i → i < n → (i - 1) / 2 = q → leT (gt L1 c1) (gt L1 i)) := fun i h0 h1 h2 => by
                    obtain rfl : i = c1 := by omega
                    exact leT_refl _
        clear hb
        rintro e w4 ⟨rfl, hb4⟩
        have HB4 := hide (HB2.out.trans (hb4.mono HB2.out.size))
        clear hb4
        cases b
        · have HDN := hide (HR.out.done HB4.out (fun i h0 h1 h2 => leT_trans (nlt_le HBB.out.symm) (HMIN.out i h0 h1 h2)))
          go_wp2_with fail
          go_ret
          exact ⟨_, L1, rfl, HDN.out⟩
        · go_wp2_with fail
          refine (stswap q c1 (HR.out.st.below HB4.out) (by rw [HL1.out]; omega) (by rw [HL1.out]; omega)).mono ?_
          rintro e w5 ⟨rfl, L2, hs5, hp5, hg5, hf5⟩
          have HI5 := hide (HR.out.step HB4.out hs5 hp5 hg5 hf5 (by omega) (by omega) (by omega) HMIN.out (ltT_le HBB.out.symm))
          clear hs5 hp5 hg5 hf5
          go_wp2_with fail
          go_roundw
          · exact ⟨L2, c1, rfl, by omega, HI5⟩
          · show n - (c1 : Int).toNat < n - (q : Int).toNat
            omega

end Go.Proofs.Ytogelnljkdcajaa

namespace Go.Proofs.Ytogelnljkdcajaa
open Go.RowKit Go.Sort
set_option linter.unusedVariables false
set_option linter.unusedSimpArgs false

theorem HeapN.min {f : Nat → TV} {n : Nat} (h : HeapN f n) : ∀ i, i < n → leT (f 0) (f i) := by
  intro i
  induction i using Nat.strongRecOn with
  | _ i ih =>
    intro hi
    by_cases h0 : i = 0
    · subst h0; exact leT_refl _
    · exact leT_trans (ih ((i - 1) / 2) (by omega) (by omega)) (h i (by omega) hi)
/-- the blocks that a heap's calls write -/
def HBk (tb mb : Nat) (lv : Value) : Nat → Prop := fun j => j = tb ∨ j = mb ∨ lv.ownBlock = some j
structure HpT (w : World) (base tb mb : Nat) (lv : Value) (L : List TV) : Prop where
  st : StT w base tb mb lv L
  hp : HeapN (gt L) L.length
  ln : L.length ≤ 100000
theorem HpT.below {w w' : World} {base tb mb : Nat} {lv : Value} {L : List TV} (h : HpT w base tb mb lv L) (hb : Below w.heap.size w w') : HpT w' base tb mb lv L := ⟨h.st.below hb, h.hp, h.ln⟩
def NewB (w : World) (lv lv' : Value) : Prop := ∀ g, lv'.ownBlock = some g → lv.ownBlock = some g ∨ w.heap.size ≤ g
theorem split_last {L : List TV} (h : 0 < L.length) : ∃ L0 x, L = L0 ++ [x] ∧ L0.length = L.length - 1 ∧ x = gt L (L.length - 1) := by
  refine ⟨L.dropLast, L.getLast (by rintro rfl; simp at h), (List.dropLast_concat_getLast _).symm, by simp, ?_⟩
  rw [List.getLast_eq_getElem, gt_of (by omega)]

theorem hm_len (tb : Nat) (W : World) : (method 249 65 (.pointer (some ⟨tb, 0, none⟩)) "Len").run Try.prog W = .ok (91, .pointer (some ⟨tb, 0, none⟩)) W := by kernel_rfl
theorem hm_swap (tb : Nat) (W : World) : (method 249 65 (.pointer (some ⟨tb, 0, none⟩)) "Swap").run Try.prog W = .ok (95, .pointer (some ⟨tb, 0, none⟩)) W := by kernel_rfl
theorem hm_push (tb : Nat) (W : World) : (method 249 65 (.pointer (some ⟨tb, 0, none⟩)) "Push").run Try.prog W = .ok (94, .pointer (some ⟨tb, 0, none⟩)) W := by kernel_rfl
theorem hm_pop (tb : Nat) (W : World) : (method 249 65 (.pointer (some ⟨tb, 0, none⟩)) "Pop").run Try.prog W = .ok (93, .pointer (some ⟨tb, 0, none⟩)) W := by kernel_rfl
theorem stlen {w : World} {base tb mb : Nat} {lv : Value} {L : List TV} (h : StT w base tb mb lv L) :
    Calls Try.prog 91 #[.pointer (some ⟨tb, 0, none⟩)] w fun e w' => e = .returned (.int .i64 L.length) ∧ w' = w := by
  obtain ⟨M, h1, h2⟩ := h
  exact tlen_any w base tb mb lv L M h1
theorem stpush {w : World} {base tb mb : Nat} {lv : Value} {L : List TV} {x : TV} (h : StT w base tb mb lv L) (hx : KeyO w base x) (hL : L.length ≤ 1000000) (hbase : base ≤ w.heap.size) (hnm : x.nm ∉ L.map TV.nm) :
    Calls Try.prog 94 #[.pointer (some ⟨tb, 0, none⟩), .iface tmT (.agg x.cells.toArray)] w fun e w' => e = .returned (.tuple #[]) ∧
      ∃ lv', StT w' base tb mb lv' (L ++ [x]) ∧ Fr (HBk tb mb lv) w w' ∧ NewB w lv lv' := by
  obtain ⟨M, h1, h2⟩ := h
  exact (tpush_any w base tb mb lv L M x h1 hx hL hbase).mono fun e w' ⟨he, lv', ht, hf, hn⟩ => ⟨he, lv', ⟨_, ht, h2.push x hnm⟩, hf, hn⟩
theorem MapR.nd {α β : Type} {K : α → Value} {V : β → Value} {w : World} {b : Nat} {L : List (α × β)} (h : MapR w b K V L) : (L.map (·.1)).Nodup := by
  obtain ⟨_, _, _, _, h, _⟩ := h
  exact h
theorem stpop {w : World} {base tb mb : Nat} {lv : Value} {L : List TV} {x : TV} (h : StT w base tb mb lv (L ++ [x])) (hL : L.length ≤ 1000000) :
    Calls Try.prog 93 #[.pointer (some ⟨tb, 0, none⟩)] w fun e w' => e = .returned (.iface tmT (.agg x.cells.toArray)) ∧
      ∃ lv', StT w' base tb mb lv' L ∧ KeyO w' base x ∧ Fr (HBk tb mb lv) w w' ∧ NewB w lv lv' := by
  obtain ⟨M, h1, h2⟩ := h
  refine (tpop_any w base tb mb lv L M x h1 hL).mono fun e w' ⟨he, lv', ht, hf, hn⟩ => ⟨he, lv', ⟨_, ht, h2.pop h1.map.nd⟩, ?_, hf, hn⟩
  have hk : KeyO w base x := h1.keys x (by simp)
  refine ⟨hk.1.fr hf ?_, hk.2⟩
  intro g hg h9
  rcases h9 with h9 | h9 | h9
  · subst h9; exact hk.1.ne h1.blk (by decide) hg
  · subst h9; exact h1.map.ne_own hk.1 hg
  · obtain ⟨cs, hc⟩ := h1.own.typed g h9
    exact hk.1.ne hc (by decide) hg

def HPush (w : World) (base tb mb : Nat) (lv : Value) (L : List TV) (x : TV) (e : Ending) (w' : World) : Prop :=
  e = .returned (.tuple #[]) ∧ ∃ lv' L', HpT w' base tb mb lv' L' ∧ L'.Perm (L ++ [x]) ∧ Fr (HBk tb mb lv) w w' ∧ NewB w lv lv'
set_option maxRecDepth 100000 in
set_option maxHeartbeats 4000000 in
theorem hpush_any (w : World) (base tb mb : Nat) (lv : Value) (L : List TV) (x : TV) (h : HpT w base tb mb lv L) (hx : KeyO w base x) (hL : L.length < 100000) (hbase : base ≤ w.heap.size) (hnm : x.nm ∉ L.map TV.nm) :
    Calls Try.prog 28 #[.iface 65 (.pointer (some ⟨tb, 0, none⟩)), .iface tmT (.agg x.cells.toArray)] w (HPush w base tb mb lv L x) := by
  have h1 := hm_push tb
  have h2 := hm_len tb
  have HP := hide (stpush h.st hx (by omega) hbase hnm)
  have HH := hide h.hp
  clear h hx hnm
  obtain ⟨xa, xk, xb, xf, xt, xw⟩ := x
  unfold TV.cells at HP ⊢
  simp only at HP ⊢
  go_enter Try.func28, Try.ntmps28
  go_wp2_with fail
  refine HP.out.mono ?_
  rintro e w1 ⟨rfl, lv1, hs, hf, hnb⟩
  have HS := hide hs
  have HF := hide hf
  have HN := hide hnb
  clear hs hf hnb HP
  go_wp2_with fail
  refine (stlen HS.out).mono ?_
  rintro e w2 ⟨rfl, rfl⟩
  obtain ⟨n, hn⟩ : ∃ n, n = L.length := ⟨_, rfl⟩
  obtain ⟨n1, hn1⟩ : ∃ n1, n1 = n + 1 := ⟨_, rfl⟩
  have hlen : (L ++ [(⟨xa, xk, xb, xf, xt, xw⟩ : TV)]).length = n1 := by rw [hn1, hn]; simp
  have HU : Hid (UpInv (gt (L ++ [(⟨xa, xk, xb, xf, xt, xw⟩ : TV)])) n1 n) := by
    rw [hn1, hn]
    exact HH.out.push (fun i hi => gt_app hi)
  rw [hlen]
  have he1 : (n1 : Int) - 1 = (n : Int) := by omega
  have hnn : n < n1 := by omega
  have hn5 : n1 ≤ 100000 := by omega
  have HLEN := hide hlen
  clear hn hn1 hlen HH hL
  go_wp2_with fail
  refine (up_any w2 base tb mb lv1 _ n1 n HS.out (by rw [HLEN.out]; exact Nat.le_refl _) hnn (by omega) HU.out).mono ?_
  rintro e w3 ⟨rfl, L3, hs3, hp3, hh3, _, hf3⟩
  have HR : Hid (HPush w base tb mb lv L ⟨xa, xk, xb, xf, xt, xw⟩ (.returned (.tuple #[])) w3) := by
    have hl3 : L3.length = n1 := by rw [hp3.length_eq]; exact HLEN.out
    refine ⟨rfl, lv1, L3, ⟨hs3, by rw [hl3]; exact hh3, by rw [hl3]; exact hn5⟩, hp3, HF.out.trans hf3 (fun j hj h9 => ?_), HN.out⟩
    rcases h9 with h9 | h9
    · exact .inr (.inl h9)
    · rcases HN.out j h9 with h8 | h8
      · exact .inr (.inr h8)
      · omega
  clear hs3 hp3 hh3 hf3
  go_wp2_with fail
  go_end0
  exact HR.out

def HPop (w : World) (base tb mb : Nat) (lv : Value) (L : List TV) (x : TV) (e : Ending) (w' : World) : Prop :=
  e = .returned (.iface tmT (.agg x.cells.toArray)) ∧ ∃ lv' L', HpT w' base tb mb lv' L' ∧ KeyO w' base x ∧ L.Perm (L' ++ [x]) ∧ Fr (HBk tb mb lv) w w' ∧ NewB w lv lv'
theorem HPop.of {w wy : World} {base tb mb n : Nat} {lv : Value} {L L2 : List TV} {x : TV} (hs : StT wy base tb mb lv L2) (hp : L2.Perm L) (hh : HeapN (gt L2) n) (hl : L.length = n + 1) (hx : x = gt L2 n) (hn : n < 100000) (hf : Fr (fun j => j = mb ∨ lv.ownBlock = some j) w wy) :
    Calls Try.prog 93 #[.pointer (some ⟨tb, 0, none⟩)] wy (HPop w base tb mb lv L x) := by
  have hl2 : L2.length = n + 1 := by rw [hp.length_eq, hl]
  obtain ⟨L3, x3, h1, h2, h3⟩ := split_last (L := L2) (by omega)
  have hx3 : x3 = x := by rw [h3, hx, hl2]; rfl
  subst hx3
  subst h1
  have hl3 : L3.length = n := by omega
  refine (stpop hs (by omega)).mono ?_
  rintro e w' ⟨he, lv', hs', hk, hf', hn'⟩
  have hf2 : Fr (HBk tb mb lv) w wy := hf.mono (fun j _ h9 => .inr h9)
  refine ⟨he, lv', L3, ⟨hs', ?_, by omega⟩, hk, hp.symm, hf2.trans hf' (fun j _ h9 => h9), fun g hg => ?_⟩
  · rw [hl3]
    exact hh.mono (Nat.le_refl _) (fun i hi => (gt_app (by omega)).symm)
  · rcases hn' g hg with h9 | h9
    · exact .inl h9
    · exact .inr (Nat.le_trans hf.size h9)

set_option maxRecDepth 100000 in
set_option maxHeartbeats 4000000 in
theorem hpop_any (w : World) (base tb mb : Nat) (lv : Value) (L : List TV) (h : HpT w base tb mb lv L) (hL : 0 < L.length) :
    Calls Try.prog 34 #[.iface 65 (.pointer (some ⟨tb, 0, none⟩))] w (HPop w base tb mb lv L (gt L 0)) := by
  have h1 := hm_pop tb
  have h2 := hm_len tb
  have h3 := hm_swap tb
  have HS := hide h.st
  have HH := hide h.hp
  have hln := h.ln
  clear h
  obtain ⟨n, hn⟩ : ∃ n, n = L.length - 1 := ⟨_, rfl⟩
  obtain ⟨N, hN⟩ : ∃ N, N = L.length := ⟨_, rfl⟩
  have HL := hide hN
  have he1 : (N : Int) - 1 = (n : Int) := by omega
  have hNn : n < N := by omega
  have hn5 : n < 100000 := by omega
  have HN1 : Hid (N = n + 1) := by show _ = _; omega
  rw [← hN] at hL
  clear hn hN hln
  obtain ⟨x, hx⟩ : ∃ x, x = gt L 0 := ⟨_, rfl⟩
  rw [← hx]
  have HX := hide hx
  clear hx
  go_enter Try.func34, Try.ntmps34
  go_wp2_with fail
  refine (stlen HS.out).mono ?_
  rintro e w2 ⟨rfl, rfl⟩
  rw [← HL.out]
  go_wp2_with fail
  refine (stswap 0 n HS.out (by rw [← HL.out]; omega) (by rw [← HL.out]; omega)).mono ?_
  rintro e w3 ⟨rfl, L3, hs3, hp3, hg3, hf3⟩
  have HS3 := hide hs3
  have HP3 := hide hp3
  have HG3 := hide hg3
  have HF3 := hide hf3
  clear hs3 hp3 hg3 hf3
  have HW : Hid (WInv (gt L3) n 0) := by
    refine ⟨fun i h0 h4 h5 h6 => ?_, fun i h0 h4 h5 h6 => by omega⟩
    have h7 := HH.out i h0 (by rw [← HL.out]; omega)
    rw [HG3.out]
    unfold swF
    rw [if_neg (by omega), if_neg (by omega), if_neg (by omega), if_neg (by omega)]
    exact h7
  go_wp2_with fail
  refine (down_any w3 base tb mb lv L3 n 0 HS3.out (by rw [HP3.out.length_eq, ← HL.out]; omega) (by omega) (by omega) HW.out).mono ?_
  rintro e w4 ⟨b, L4, rfl, hd⟩
  have HC : Hid (Calls Try.prog 93 #[.pointer (some ⟨tb, 0, none⟩)] w4 (HPop w2 base tb mb lv L x)) := by
    refine HPop.of hd.st (hd.pm.trans HP3.out) (n := n) ?_ (by rw [← HL.out]; exact HN1.out) ?_ hn5 (HF3.out.trans hd.fr (fun _ _ h => h))
    · cases b
      · obtain ⟨h5, h6⟩ := hd.no rfl
        rw [h5]
        exact h6.zero
      · exact hd.yes rfl
    · rw [hd.hi n (Nat.le_refl _), HG3.out, HX.out]
      unfold swF
      rw [if_pos rfl]
  clear hd HW HS3 HP3 HG3 HF3
  go_wp2_with fail
  refine HC.out.mono ?_
  rintro e w5 ⟨rfl, hr⟩
  have HR := hide hr
  clear hr HC
  go_wp2_with fail
  go_ret
  exact ⟨rfl, HR.out⟩

set_option maxRecDepth 100000 in
set_option maxHeartbeats 4000000 in
theorem hremove_any (w : World) (base tb mb : Nat) (lv : Value) (L : List TV) (i : Nat) (h : HpT w base tb mb lv L) (hi : i < L.length) :
    Calls Try.prog 33 #[.iface 65 (.pointer (some ⟨tb, 0, none⟩)), .int .i64 i] w (HPop w base tb mb lv L (gt L i)) := by
  have h1 := hm_pop tb
  have h2 := hm_len tb
  have h3 := hm_swap tb
  have HS := hide h.st
  have HH := hide h.hp
  have hln := h.ln
  clear h
  obtain ⟨n, hn⟩ : ∃ n, n = L.length - 1 := ⟨_, rfl⟩
  obtain ⟨N, hN⟩ : ∃ N, N = L.length := ⟨_, rfl⟩
  have HL := hide hN
  have he1 : (N : Int) - 1 = (n : Int) := by omega
  have hNn : n < N := by omega
  have hn5 : n < 100000 := by omega
  have HN1 : Hid (N = n + 1) := by show _ = _; omega
  rw [← hN] at hi
  clear hn hN hln
  obtain ⟨x, hx⟩ : ∃ x, x = gt L i := ⟨_, rfl⟩
  rw [← hx]
  have HX := hide hx
  clear hx
  go_enter Try.func33, Try.ntmps33
  go_wp2_with fail
  refine (stlen HS.out).mono ?_
  rintro e w2 ⟨rfl, rfl⟩
  rw [← HL.out]
  by_cases hin : i = n
  · subst hin
    have HC : Hid (Calls Try.prog 93 #[.pointer (some ⟨tb, 0, none⟩)] w2 (HPop w2 base tb mb lv L x)) :=
      HPop.of HS.out (List.Perm.refl _) (HH.out.mono (by rw [← HL.out]; omega) (fun _ _ => rfl)) (by rw [← HL.out]; exact HN1.out) HX.out hn5 (Fr.refl _ _)
    go_wp2_with fail
    refine HC.out.mono ?_
    rintro e w5 ⟨rfl, hr⟩
    have HR := hide hr
    clear hr HC
    go_wp2_with fail
    go_ret
    exact ⟨rfl, HR.out⟩
  · have hin2 : i < n := by have := HN1.out; omega
    have hne : ((n : Int) = (i : Int)) = False := eq_false (by omega)
    go_wp2_with fail
    refine (stswap i n HS.out (by rw [← HL.out]; omega) (by rw [← HL.out]; omega)).mono ?_
    rintro e w3 ⟨rfl, L3, hs3, hp3, hg3, hf3⟩
    have HS3 := hide hs3
    have HP3 := hide hp3
    have HG3 := hide hg3
    have HF3 := hide hf3
    clear hs3 hp3 hg3 hf3
    have HW : Hid (WInv (gt L3) n i) := by
      have h7 := HH.out
      rw [← HL.out, HN1.out] at h7
      refine h7.swap hin2 (fun k hk h8 => ?_)
      rw [HG3.out]
      unfold swF
      rw [if_neg (by omega), if_neg h8]
    have HXN : Hid (x = gt L3 n) := by
      show x = _
      rw [HG3.out, HX.out]
      unfold swF
      rw [if_pos rfl]
    go_wp2_with fail
    refine (down_any w3 base tb mb lv L3 n i HS3.out (by rw [HP3.out.length_eq, ← HL.out]; omega) (by omega) (by omega) HW.out).mono ?_
    rintro e w4 ⟨b, L4, rfl, hd⟩
    have HD := hide hd
    clear hd HW
    cases b
    · have HUP : Hid (Calls Try.prog 44 #[.iface 65 (.pointer (some ⟨tb, 0, none⟩)), .int .i64 i] w4 fun e w' => e = .returned (.tuple #[]) ∧ Calls Try.prog 93 #[.pointer (some ⟨tb, 0, none⟩)] w' (HPop w2 base tb mb lv L x)) := by
        obtain ⟨h5, h6⟩ := HD.out.no rfl
        have hs4 := HD.out.st
        rw [h5] at hs4
        refine (up_any w4 base tb mb lv L3 n i hs4 (by rw [HP3.out.length_eq, ← HL.out]; omega) hin2 (by omega) h6).mono ?_
        rintro e w5 ⟨he, L5, hs5, hp5, hh5, hk5, hf5⟩
        exact ⟨he, HPop.of hs5 (hp5.trans HP3.out) hh5 (by rw [← HL.out]; exact HN1.out) (by rw [hk5 n (Nat.le_refl _)]; exact HXN.out) hn5 ((HF3.out.trans HD.out.fr (fun _ _ h => h)).trans hf5 (fun _ _ h => h))⟩
      clear HD HXN HS3 HP3 HG3 HF3
      go_wp2_with fail
      refine HUP.out.mono ?_
      rintro e w5 ⟨rfl, hc5⟩
      have HC := hide hc5
      clear hc5 HUP
      go_wp2_with fail
      refine HC.out.mono ?_
      rintro e w6 ⟨rfl, hr⟩
      have HR := hide hr
      clear hr HC
      go_wp2_with fail
      go_ret
      exact ⟨rfl, HR.out⟩
    · have HC : Hid (Calls Try.prog 93 #[.pointer (some ⟨tb, 0, none⟩)] w4 (HPop w2 base tb mb lv L x)) :=
        HPop.of HD.out.st (HD.out.pm.trans HP3.out) (HD.out.yes rfl) (by rw [← HL.out]; exact HN1.out) (by rw [HD.out.hi n (Nat.le_refl _)]; exact HXN.out) hn5 (HF3.out.trans HD.out.fr (fun _ _ h => h))
      clear HD HXN HS3 HP3 HG3 HF3
      go_wp2_with fail
      refine HC.out.mono ?_
      rintro e w6 ⟨rfl, hr⟩
      have HR := hide hr
      clear hr HC
      go_wp2_with fail
      go_ret
      exact ⟨rfl, HR.out⟩

end Go.Proofs.Ytogelnljkdcajaa

namespace Go.Proofs.Ytogelnljkdcajaa
open Go.RowKit Go.Sort
set_option linter.unusedVariables false
set_option linter.unusedSimpArgs false

def TV.right (x : TV) : Prop := (0 ≤ x.a ∧ x.a ≤ 4194304) ∧ (0 ≤ x.w ∧ x.w ≤ 9) ∧ x.win.good ∧ x.kb.length ≤ 1048576
instance (x : TV) : Decidable x.right := by unfold TV.right; exact inferInstance
set_option maxRecDepth 100000 in
set_option maxHeartbeats 4000000 in
theorem right_any (x : TV) (B : Nat) (w : World) (hx : KeyIn w B x) : Calls Try.prog 27 #[.agg x.cells.toArray] w fun e w' => e = .returned (.bool (decide x.right)) ∧ Below w.heap.size w w' := by
  obtain ⟨A, c, hkx, hc⟩ := hx.sl.form
  obtain ⟨xa, xk, xb, xf, xt, xw⟩ := x
  simp only at hkx hc
  subst hkx
  clear hx
  obtain ⟨n, hn⟩ : ∃ n, n = xb.length := ⟨_, rfl⟩
  obtain ⟨r, hr⟩ : ∃ r, r = decide (TV.right ⟨xa, .slice A xb.length c, xb, xf, xt, xw⟩) := ⟨_, rfl⟩
  rw [← hr]
  have HR : Hid (r = decide (((0 ≤ xa ∧ xa ≤ 4194304) ∧ (0 ≤ xw ∧ xw ≤ 9) ∧ (Win.mk xf xt).good ∧ n ≤ 1048576))) := by show _ = _; rw [hr, hn]; rfl
  unfold TV.cells
  simp only
  rw [← hn] at hc ⊢
  clear hr hn
  have HB : Hid (Below w.heap.size w (w.alloc (.cells #[.int .i64 xa, .slice A n c, .int .i64 xf, .int .i64 xt, .int .i64 xw] tmT))) := (Below.refl _ _).alloc (Nat.le_refl _) _
  by_cases h1 : 0 ≤ xa
  · by_cases h2 : xa ≤ 4194304
    · by_cases h3 : 0 ≤ xw
      · by_cases h4 : xw ≤ 9
        · have HP : Hid (Blk (w.alloc (.cells #[.int .i64 xa, .slice A n c, .int .i64 xf, .int .i64 xt, .int .i64 xw] tmT)) w.heap.size tmT #[.int .i64 xa, .slice A n c, .int .i64 xf, .int .i64 xt, .int .i64 xw]) := Blk.new w _ _
          have HG : Hid (∀ b, b = decide ((Win.mk xf xt).good ∧ n ≤ 1048576) → b = r) := by
            intro b hb
            rw [HR.out, hb]
            simp [h1, h2, h3, h4]
          by_cases h5 : (Win.mk xf xt).good
          · have HGD := hide h5
            clear h5
            go_enter Try.func27, Try.ntmps27
            go_wp2_with fail
            refine (wcheck_any xf xt _).mono ?_
            rw [if_pos HGD.out]
            generalize w.alloc (.cells #[.int .i64 xa, .slice A n c, .int .i64 xf, .int .i64 xt, .int .i64 xw] tmT) = w1 at *
            rintro e w2 ⟨rfl, hb⟩
            have HP2 := hide (HP.out.below hb HP.out.lt)
            have HB2 := hide (HB.out.trans (hb.mono HB.out.size))
            clear hb
            have c1 : w2.cell? ⟨w.heap.size, 1, none⟩ = some (.slice A n c) := HP2.out.cell 1
            have hl2 := HP2.out.lt
            by_cases h6 : n ≤ 1048576
            · have HF : Hid (r = true) := (HG.out true (by simp [HGD.out, h6])).symm
              go_wp2_with fail
              go_ret
              rw [HF.out]
              exact ⟨congrArg (fun b => Ending.returned (Value.bool b)) (show decide ((n : Int) ≤ 1048576) = true from decide_eq_true (by omega)), HB2.out⟩
            · have HF : Hid (r = false) := (HG.out false (by simp [HGD.out, h6])).symm
              go_wp2_with fail
              go_ret
              rw [HF.out]
              exact ⟨congrArg (fun b => Ending.returned (Value.bool b)) (show decide ((n : Int) ≤ 1048576) = false from decide_eq_false (by omega)), HB2.out⟩
          · have HF : Hid (r = false) := (HG.out false (by simp [h5])).symm
            have HGD := hide h5
            clear h5
            go_enter Try.func27, Try.ntmps27
            go_wp2_with fail
            refine (wcheck_any xf xt _).mono ?_
            rw [if_neg HGD.out]
            generalize w.alloc (.cells #[.int .i64 xa, .slice A n c, .int .i64 xf, .int .i64 xt, .int .i64 xw] tmT) = w1 at *
            rintro e w2 ⟨rfl, hb⟩
            have HB2 := hide (HB.out.trans (hb.mono HB.out.size))
            clear hb
            go_wp2_with fail
            go_ret
            rw [HF.out]
            exact ⟨rfl, HB2.out⟩
        · have HF : Hid (r = false) := by show _ = _; rw [HR.out]; simp [h4]
          go_enter Try.func27, Try.ntmps27
          go_wp2_with fail
          go_ret
          rw [HF.out]
          exact ⟨rfl, HB.out⟩
      · have HF : Hid (r = false) := by show _ = _; rw [HR.out]; simp [h3]
        go_enter Try.func27, Try.ntmps27
        go_wp2_with fail
        go_ret
        rw [HF.out]
        exact ⟨rfl, HB.out⟩
    · have HF : Hid (r = false) := by show _ = _; rw [HR.out]; simp [h2]
      go_enter Try.func27, Try.ntmps27
      go_wp2_with fail
      go_ret
      rw [HF.out]
      exact ⟨rfl, HB.out⟩
  · have HF : Hid (r = false) := by show _ = _; rw [HR.out]; simp [h1]
    go_enter Try.func27, Try.ntmps27
    go_wp2_with fail
    go_ret
    rw [HF.out]
    exact ⟨rfl, HB.out⟩

theorem set1_any (x : TV) (B : Nat) (w : World) (hx : KeyIn w B x) (hB : B ≤ w.heap.size) : Calls Try.prog 26 #[.agg x.cells.toArray] w fun e w' => e = .returned (.bool (!decide x.right)) ∧ Below w.heap.size w w' := by
  have HR : Hid (∀ X : World, Below w.heap.size w X → Calls Try.prog 27 #[.agg x.cells.toArray] X fun e w' => e = .returned (.bool (decide x.right)) ∧ Below X.heap.size X w') := fun X h => right_any x B X (hx.below (h.mono hB))
  generalize decide x.right = r at HR ⊢
  obtain ⟨xa, xk, xb, xf, xt, xw⟩ := x
  unfold TV.cells at HR ⊢
  simp only at HR ⊢
  clear hx
  have HB : Hid (Below w.heap.size w (w.alloc (.cells #[.int .i64 xa, xk, .int .i64 xf, .int .i64 xt, .int .i64 xw] tmT))) := (Below.refl _ _).alloc (Nat.le_refl _) _
  go_enter Try.func26, Try.ntmps26
  go_wp2_with fail
  refine (HR.out _ HB.out).mono ?_
  generalize w.alloc (.cells #[.int .i64 xa, xk, .int .i64 xf, .int .i64 xt, .int .i64 xw] tmT) = w1 at *
  rintro e w2 ⟨rfl, hb⟩
  have HB2 := hide (HB.out.trans (hb.mono HB.out.size))
  clear hb HR
  go_wp2_with fail
  go_ret
  exact ⟨rfl, HB2.out⟩

/-- the heap: its struct over the tree -/
abbrev hpT : Nat := 70
structure HpS (w : World) (base hb tb mb : Nat) (lv : Value) (L : List TV) : Prop where
  blk : Blk w hb hpT #[.pointer (some ⟨tb, 0, none⟩)]
  hp : HpT w base tb mb lv L
  bh : base ≤ hb
theorem HpS.below {w w' : World} {base hb tb mb : Nat} {lv : Value} {L : List TV} (h : HpS w base hb tb mb lv L) (k : Below w.heap.size w w') : HpS w' base hb tb mb lv L := ⟨h.blk.below k h.blk.lt, h.hp.below k, h.bh⟩
theorem HpS.drewN {w : World} {base hb tb mb : Nat} {lv : Value} {L : List TV} (h : HpS w base hb tb mb lv L) (q : Nat) : HpS (w.drewN q) base hb tb mb lv L := h.below ((Below.refl _ _).drewN q)
theorem HpS.open {w : World} {base hb tb mb : Nat} {lv : Value} {L : List TV} (h : HpS w base hb tb mb lv L) : w.cell? ⟨hb, 0, none⟩ = some (.pointer (some ⟨tb, 0, none⟩)) ∧ w.cell? ⟨tb, 0, none⟩ = some lv ∧ w.cell? ⟨tb, 1, none⟩ = some (.map (some mb)) ∧ hb < w.heap.size ∧ tb < w.heap.size ∧
    ∃ A c, lv = .slice A L.length c ∧ L.length ≤ c := by
  obtain ⟨M, ht, hg⟩ := h.hp.st
  exact ⟨h.blk.cell 0, ht.blk.cell 0, ht.blk.cell 1, h.blk.lt, ht.blk.lt, ht.own.sl.form⟩
theorem new_any (w : World) (base : Nat) (hbase : base ≤ w.heap.size) : Calls Try.prog 7 #[] w fun e w' => ∃ hb tb mb lv, e = .returned (.pointer (some ⟨hb, 0, none⟩)) ∧ HpS w' base hb tb mb lv [] ∧ Below w.heap.size w w' := by
  have hm : (Instr.makeMap placeT none).run Try.prog w = .ok (.map (some w.heap.size)) (w.alloc (.map #[] 0)) := rfl
  go_enter Try.func7, Try.ntmps7
  go_wp2_with fail
  go_ret
  have hM : MapR ((w.alloc (.map #[] 0)).alloc (.cells #[.slice none 0 0, .map (some w.heap.size)] treeT)) w.heap.size nmV intV [] := (MapR.new w nmV intV).below ((Below.refl _ _).alloc (Nat.le_refl _) _) (by simp)
  have hT : Blk ((w.alloc (.map #[] 0)).alloc (.cells #[.slice none 0 0, .map (some w.heap.size)] treeT)) (w.heap.size + 1) treeT #[.slice none 0 0, .map (some w.heap.size)] := by
    have h9 := Blk.new (w.alloc (.map #[] 0)) treeT #[.slice none 0 0, .map (some w.heap.size)]
    simpa using h9
  have hS : TreeS ((w.alloc (.map #[] 0)).alloc (.cells #[.slice none 0 0, .map (some w.heap.size)] treeT)) base (w.heap.size + 1) w.heap.size (.slice none 0 0) [] [] :=
    ⟨hT, Own.nil _ _ _ _, hM, fun x hx => (by cases hx), by omega, hbase⟩
  have hB : Below w.heap.size w ((w.alloc (.map #[] 0)).alloc (.cells #[.slice none 0 0, .map (some w.heap.size)] treeT)) := ((Below.refl _ _).alloc (Nat.le_refl _) _).alloc (by simp) _
  have hz : ((w.alloc (.map #[] 0)).alloc (.cells #[.slice none 0 0, .map (some w.heap.size)] treeT)).heap.size = w.heap.size + 1 + 1 := by simp
  have hH := Blk.new ((w.alloc (.map #[] 0)).alloc (.cells #[.slice none 0 0, .map (some w.heap.size)] treeT)) hpT #[.pointer (some ⟨w.heap.size + 1, 0, none⟩)]
  have hS2 := hS.below ((Below.refl _ _).alloc (Nat.le_refl _) (.cells #[.pointer (some ⟨w.heap.size + 1, 0, none⟩)] hpT))
  rw [hz] at hH
  exact ⟨w.heap.size + 1 + 1, w.heap.size + 1, w.heap.size, .slice none 0 0, rfl, ⟨hH, ⟨⟨[], hS2, ⟨by simp, fun a v => ⟨fun h => (by cases h), fun ⟨i, h, _⟩ => (by cases h)⟩⟩⟩, fun i h0 h1 => (by cases h1), by simp⟩, by omega⟩, hB.alloc (by rw [hz]; omega) _⟩
theorem hlen_any (w : World) (base hb tb mb : Nat) (lv : Value) (L : List TV) (h : HpS w base hb tb mb lv L) : Calls Try.prog 12 #[.pointer (some ⟨hb, 0, none⟩)] w fun e w' => e = .returned (.int .i64 L.length) ∧ w' = w := by
  obtain ⟨c0, t0, t1, hlt, htl, A, c, rfl, hc⟩ := h.open
  clear h
  generalize L.length = n at t0 ⊢
  go_enter Try.func12, Try.ntmps12
  go_wp2_with fail
  go_ret
  exact ⟨rfl, rfl⟩

end Go.Proofs.Ytogelnljkdcajaa

namespace Go.Proofs.Ytogelnljkdcajaa
open Go.RowKit Go.Sort
set_option linter.unusedVariables false
set_option linter.unusedSimpArgs false

/-- all of them are right -/
def AllRight (D : List TV) : Prop := ∀ x ∈ D, x.right
instance (D : List TV) : Decidable (AllRight D) := by unfold AllRight; exact inferInstance

theorem index_any (v : Value) (D : List TV) (n B : Nat) (w : World) (hs : Sl w B v 5 n (tms D)) (hD : D.length = n) (hB : B ≤ w.heap.size) (hK : ∀ x ∈ D, KeyIn w B x) (hn : n ≤ 8796093022207) :
    Calls Try.prog 42 #[v, .func (.func 26) #[] #[]] w fun e w' => (∃ r : Int, e = .returned (.int .i64 r) ∧ (decide (0 ≤ r) = !decide (AllRight D))) ∧ Below w.heap.size w w' := by
  obtain ⟨A, c, rfl, hc⟩ := hs.form
  have HS := hide hs
  have HD := hide hD
  have HK := hide hK
  clear hs hD hK
  go_enter Try.func42, Try.ntmps42
  go_wp2_with fail
  go_loopw [8] (fun i wr => ∃ k : Nat, k ≤ n ∧ i = .int .i64 k ∧ Hid (AllRight (D.take k)) ∧ Hid (Below w.heap.size w wr)) (fun i _ => n - (intOf i).toNat)
  case atStart => exact ⟨0, Nat.zero_le _, rfl, (fun x hx => by simp at hx), Below.refl _ _⟩
  case round =>
    obtain ⟨k, hk, rfl, HG, HB⟩ := hrel
    by_cases hlt : k < n
    · have hkD : k < D.length := by rw [HD.out]; exact hlt
      obtain ⟨ad, rfl, hab, g0, g1, g2, g3, g4⟩ := tm_at (HS.out.below (HB.out.mono hB)) hlt HD.out
      have hzr := HB.out.size
      have hab2 : (ad.add (k * 5)).block < wr.heap.size := by omega
      have HX : Hid (∀ x ∈ D.take (k + 1), x ∈ D.take k ∨ x = D[k]) := by
        intro x hx
        rw [List.take_succ_eq_append_getElem hkD] at hx
        rcases List.mem_append.1 hx with h9 | h9
        · exact .inl h9
        · exact .inr (List.mem_singleton.1 h9)
      have HM := hide (List.getElem_mem hkD)
      generalize D[k] = x at g0 g1 g2 g3 g4 HX HM
      have HS1 := hide (set1_any x B wr ((HK.out x HM.out).below (HB.out.mono hB)) (by omega))
      have hbool : decide x.right = true ∨ decide x.right = false := by cases decide x.right <;> simp
      obtain ⟨bb, hbb⟩ : ∃ b, b = decide x.right := ⟨_, rfl⟩
      have HBB := hide hbb
      have HRT : Hid (x.right → bb = true → True) := fun _ _ => trivial
      rw [← hbb] at HS1 hbool
      clear hbb
      have HRX : Hid (bb = true → x.right) := fun h9 => of_decide_eq_true (by rw [← HBB.out]; exact h9)
      have HRN : Hid (bb = false → ¬ x.right) := fun h9 => of_decide_eq_false (by rw [← HBB.out]; exact h9)
      clear HBB HRT
      obtain ⟨xa, xk, xb, xf, xt, xw⟩ := x
      unfold TV.cells at HS1
      simp only at g0 g1 g2 g3 g4 HS1
      go_wp2_with fail
      refine HS1.out.mono ?_
      rintro e w2 ⟨rfl, hb⟩
      have HB2 := hide (HB.out.trans (hb.mono HB.out.size))
      clear hb
      rcases hbool with h | h
      · rw [h]
        have hg := HRX.out h
        have HG2 : Hid (AllRight (D.take (k + 1))) := by
          intro y hy
          rcases HX.out y hy with h9 | rfl
          · exact HG.out y h9
          · exact hg
        clear h hg
        go_wp2_with fail
        go_roundw
        case rel => exact ⟨k + 1, by omega, by simp, HG2, HB2⟩
        case measure => simp [intOf]; omega
      · rw [h]
        have hg := HRN.out h
        have HG2 : Hid (¬ AllRight D) := fun h9 => hg (h9 _ HM.out)
        clear h hg
        go_wp2_with fail
        go_ret
        refine ⟨⟨k, rfl, ?_⟩, HB2.out⟩
        rw [decide_eq_false HG2.out]
        simp
    · have HG2 : Hid (AllRight D) := by
        have h9 := HG.out
        rw [List.take_of_length_le (by rw [HD.out]; omega)] at h9
        exact h9
      go_wp2_with fail
      go_ret
      refine ⟨⟨-1, rfl, ?_⟩, HB.out⟩
      rw [decide_eq_true HG2.out]
      simp

theorem contains_any (v : Value) (D : List TV) (n B : Nat) (w : World) (hs : Sl w B v 5 n (tms D)) (hD : D.length = n) (hB : B ≤ w.heap.size) (hK : ∀ x ∈ D, KeyIn w B x) (hn : n ≤ 8796093022207) :
    Calls Try.prog 25 #[v, .func (.func 26) #[] #[]] w fun e w' => e = .returned (.bool (!decide (AllRight D))) ∧ Below w.heap.size w w' := by
  have HI := hide (index_any v D n B w hs hD hB hK hn)
  clear hs hD hB hK hn
  obtain ⟨b, hb⟩ : ∃ b, b = !decide (AllRight D) := ⟨_, rfl⟩
  have HBB := hide hb
  rw [← hb]
  clear hb
  go_enter Try.func25, Try.ntmps25
  go_wp2_with fail
  refine HI.out.mono ?_
  rintro e w2 ⟨⟨r, rfl, hr⟩, hb⟩
  rw [← HBB.out] at hr
  have HR := hide hr
  have HB := hide hb
  clear hr hb
  go_wp2_with fail
  go_ret
  rw [← HR.out]
  exact ⟨rfl, HB.out⟩

end Go.Proofs.Ytogelnljkdcajaa
