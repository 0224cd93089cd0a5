/- container/heap: up. -/
import Derived.Test.YtogelnljkdcajaaHeap
namespace Go.Proofs.Ytogelnljkdcajaa
open Go.RowKit Go.Sort
set_option linter.unusedVariables false
set_option linter.unusedSimpArgs false

/-- the tree with its map of places -/
def StT (w : World) (base tb mb : Nat) (lv : Value) (L : List TV) : Prop := ∃ M, TreeS w base tb mb lv L M ∧ Good M L
theorem StT.below {w w' : World} {base tb mb : Nat} {lv : Value} {L : List TV} (h : StT w base tb mb lv L) (hb : Below w.heap.size w w') : StT w' base tb mb lv L := h.elim fun M ⟨h1, h2⟩ => ⟨M, h1.below hb, h2⟩
theorem StT.drewN {w : World} {base tb mb : Nat} {lv : Value} {L : List TV} (h : StT w base tb mb lv L) (q : Nat) : StT (w.drewN q) base tb mb lv L := h.below ((Below.refl _ _).drewN q)
theorem stless {w : World} {base tb mb : Nat} {lv : Value} {L : List TV} (i k : Nat) (h : StT w base tb mb lv L) (hi : i < L.length) (hk : k < L.length) :
    Calls Try.prog 92 #[.pointer (some ⟨tb, 0, none⟩), .int .i64 i, .int .i64 k] w fun e w' => e = .returned (.bool (ltT (gt L i) (gt L k))) ∧ Below w.heap.size w w' := by
  obtain ⟨M, h1, h2⟩ := h
  rw [gt_of hi, gt_of hk]
  exact tless_any w base tb mb lv L M i k h1 hi hk
theorem stswap {w : World} {base tb mb : Nat} {lv : Value} {L : List TV} (i k : Nat) (h : StT w base tb mb lv L) (hi : i < L.length) (hk : k < L.length) :
    Calls Try.prog 95 #[.pointer (some ⟨tb, 0, none⟩), .int .i64 i, .int .i64 k] w fun e w' => e = .returned (.tuple #[]) ∧ ∃ L', StT w' base tb mb lv L' ∧ L'.Perm L ∧ gt L' = swF (gt L) i k ∧ Fr (fun j => j = mb ∨ lv.ownBlock = some j) w w' := by
  obtain ⟨M, h1, h2⟩ := h
  exact (tswap_any w base tb mb lv L M i k h1 hi hk).mono fun e w' ⟨he, ht, hf⟩ => ⟨he, _, ⟨_, ht, h2.swap i k hi hk⟩, swap_perm L i k hi hk, funext fun j => gt_swap L i k hi hk j, hf⟩

/-- what up keeps -/
structure UpI (w wz : World) (base tb mb : Nat) (lv : Value) (L : List TV) (n : Nat) (L1 : List TV) (q : Nat) : Prop where
  st : StT wz base tb mb lv L1
  pm : L1.Perm L
  up : UpInv (gt L1) n q
  hi : ∀ i, n ≤ i → gt L1 i = gt L i
  fr : Fr (fun j => j = mb ∨ lv.ownBlock = some j) w wz

set_option maxRecDepth 100000 in
set_option maxHeartbeats 4000000 in
theorem up_any (w : World) (base tb mb : Nat) (lv : Value) (L : List TV) (n j : Nat) (h : StT w base tb mb lv L) (hn : n ≤ L.length) (hj : j < n) (hN : n ≤ 1000000) (hu : UpInv (gt L) n j) :
    Calls Try.prog 44 #[.iface 65 (.pointer (some ⟨tb, 0, none⟩)), .int .i64 j] w fun e w' => e = .returned (.tuple #[]) ∧ ∃ L', StT w' base tb mb lv L' ∧ L'.Perm L ∧ HeapN (gt L') n ∧ (∀ i, n ≤ i → gt L' i = gt L i) ∧ Fr (fun j => j = mb ∨ lv.ownBlock = some j) w w' := by
  have HI : Hid (UpI w w base tb mb lv L n L j) := ⟨h, List.Perm.refl _, hu, fun _ _ => rfl, Fr.refl _ w⟩
  clear h hu
  go_enter Try.func44, Try.ntmps44
  go_wp2_with fail
  go_loopw [1] (fun i wz => ∃ (L1 : List TV) (q : Nat), i = .int .i64 q ∧ q < n ∧ Hid (UpI w wz base tb mb lv L n L1 q)) (fun i _ => (intOf i).toNat)
  case atStart => exact ⟨L, j, rfl, hj, HI.out⟩
  case round =>
    obtain ⟨L1, q, rfl, hq, HR⟩ := hrel
    have hm : ∀ W : World, (method 249 65 (.pointer (some ⟨tb, 0, none⟩)) "Less").run Try.prog W = .ok (92, .pointer (some ⟨tb, 0, none⟩)) W := fun _ => by kernel_rfl
    by_cases hq0 : q = 0
    · subst hq0
      go_wp2_with fail
      go_end0
      exact ⟨rfl, L1, HR.out.st, HR.out.pm, HR.out.up.zero, HR.out.hi, HR.out.fr⟩
    · obtain ⟨p, hp⟩ : ∃ p, p = (q - 1) / 2 := ⟨_, rfl⟩
      have e1 : ((q - 1 : Nat) : Int) / 2 = (p : Int) := by omega
      have e3 : ((q : Int) - 1) / 2 = (p : Int) := by omega
      have e2 : ((p : Int) == (q : Int)) = false := by simp; omega
      have hpq : p < q := by omega
      have HL1 : Hid (L1.length = L.length) := HR.out.pm.length_eq
      have HUP : Hid (leT (gt L1 q) (gt L1 p) → UpInv (swF (gt L1) p q) n p) := HR.out.up.step (by omega) hq hp
      have HDN : Hid (leT (gt L1 p) (gt L1 q) → HeapN (gt L1) n) := fun h => HR.out.up.done (fun _ => by rw [← hp]; exact h)
      have hq1 : 0 < q := by omega
      clear hp hq0
      have hm2 : ∀ W : World, (method 249 65 (.pointer (some ⟨tb, 0, none⟩)) "Swap").run Try.prog W = .ok (95, .pointer (some ⟨tb, 0, none⟩)) W := fun _ => by kernel_rfl
      go_wp2_with fail
      refine (stless q p HR.out.st (by rw [HL1.out]; omega) (by rw [HL1.out]; omega)).mono ?_
      obtain ⟨b, hb⟩ : ∃ b, b = ltT (gt L1 q) (gt L1 p) := ⟨_, rfl⟩
      rw [← hb]
      have HBB := hide hb
      clear hb
      rintro e w2 ⟨rfl, hb2⟩
      have HB2 := hide hb2
      clear hb2
      cases b
      · go_wp2_with fail
        go_end0
        exact ⟨rfl, L1, HR.out.st.below HB2.out, HR.out.pm, HDN.out (nlt_le HBB.out.symm), HR.out.hi, HR.out.fr.trans (Fr.of_below HB2.out : Fr (fun j => j = mb ∨ lv.ownBlock = some j) wr w2) (fun _ _ h => h)⟩
      · go_wp2_with fail
        refine (stswap p q (HR.out.st.below HB2.out) (by rw [HL1.out]; omega) (by rw [HL1.out]; omega)).mono ?_
        rintro e w3 ⟨rfl, L2, hs3, hp3, hg3, hf3⟩
        have HI3 : Hid (UpI w w3 base tb mb lv L n L2 p) := ⟨hs3, hp3.trans HR.out.pm, by rw [hg3]; exact HUP.out (ltT_le HBB.out.symm), fun i hi => by
          rw [hg3]
          unfold swF
          rw [if_neg (by omega), if_neg (by omega)]
          exact HR.out.hi i hi, (HR.out.fr.trans (Fr.of_below HB2.out : Fr (fun j => j = mb ∨ lv.ownBlock = some j) wr w2) (fun _ _ h => h)).trans hf3 (fun _ _ h => h)⟩
        clear hs3 hp3 hg3 hf3
        go_wp2_with fail
        go_roundw
        · exact ⟨L2, p, rfl, by omega, HI3⟩
        · show (p : Int).toNat < (q : Int).toNat
          omega

end Go.Proofs.Ytogelnljkdcajaa
