/- timers.Heap: Due. -/
import Derived.Test.YtogelnljkdcajaaHp6
namespace Go.Proofs.Ytogelnljkdcajaa
open Go.RowKit Go.Sort
set_option linter.unusedVariables false
set_option linter.unusedSimpArgs false

/-- a goto loop whose label stands deep in a sequence -/
theorem wp_scope_once {P : Program} {a : Act} {w : World} {Q : Exit → Act → World → Prop} {c rest : Code} (l : Nat) (J : Act → World → Prop) (μ : Act → World → Nat) (hf : findLabel c l = some (Code.skip.seq rest))
    (first : (∀ a w, J a w → rest.wp P (Exit.jump l J Q) a w) → c.wp P (Exit.jump l J Q) a w)
    (pass : ∀ a w, J a w → rest.wp P (Exit.jump l (fun a' w' => J a' w' ∧ μ a' w' < μ a w) Q) a w) : (Code.scope c).wp P Q a w := by
  have hp2 : ∀ a w, J a w → rest.wp P (Exit.jump l J Q) a w := fun a w h => Code.wp_mono (fun e a' w' hq => by
    cases e with
    | goto l' => exact ⟨hq.1, hq.2.1⟩
    | _ => exact hq) (pass a w h)
  exact wp_scope_jumps l J μ hf (first hp2) (fun a w h => wp_seq (wp_skip (pass a w h)))

structure DueI (w wz : World) (base hb tb mb : Nat) (lv : Value) (L : List TV) (now : Int) (O1 O : List TV) (ov lv1 : Value) (L1 : List TV) : Prop where
  hp : HpS wz base hb tb mb lv1 L1
  own : Own wz w.heap.size tmT 5 ov O1.length (tms O1)
  ky : ∀ x ∈ O, KeyO wz base x
  pm : L.Perm (O ++ L1)
  so : O.Pairwise leT
  le : ∀ x ∈ O, ∀ y ∈ L1, leT x y
  du : ∀ x ∈ O, x.a ≤ now
  fr : Fr (HBk tb mb lv) w wz
  nb : NewB w lv lv1
  ap : ∀ g, ov.ownBlock = some g → lv1.ownBlock ≠ some g
theorem HpS.fr {S : Nat → Prop} {w w' : World} {base hb tb mb : Nat} {lv : Value} {L : List TV} (h : HpS w base hb tb mb lv L) (hf : Fr S w w') (h1 : ¬ S hb) (h2 : ¬ S tb) (h3 : ¬ S mb) (h4 : ∀ g, lv.ownBlock = some g → ¬ S g) (h5 : ∀ g cs, Blk w g bT cs → ¬ S g) : HpS w' base hb tb mb lv L := by
  obtain ⟨M, ht, hg⟩ := h.hp.st
  exact ⟨hf.blk h.blk h1, ⟨⟨M, ht.fr hf h2 h3 h4 h5, hg⟩, h.hp.hp, h.hp.ln⟩, h.bh⟩
/-- a heap's row of timers, its block -/
theorem HpS.typed {w : World} {base hb tb mb : Nat} {lv : Value} {L : List TV} (h : HpS w base hb tb mb lv L) : (∃ cs, Blk w tb treeT cs) ∧ (∀ g t cs, Blk w g t cs → g ≠ mb) ∧ (∀ g, lv.ownBlock = some g → ∃ cs, Blk w g tmT cs) ∧ Blk w hb hpT #[.pointer (some ⟨tb, 0, none⟩)] := by
  obtain ⟨M, ht, hg⟩ := h.hp.st
  exact ⟨⟨_, ht.blk⟩, fun g t cs hc e => ht.map.ne_blk hc e.symm, ht.own.typed, h.blk⟩
/-- a block of another type than the heap's is not written by its calls -/
theorem HpS.nwr {w : World} {base hb tb mb : Nat} {lv : Value} {L : List TV} (h : HpS w base hb tb mb lv L) {g t : Nat} {cs : Array Value} (hg : Blk w g t cs) (h1 : t ≠ treeT) (h2 : lv.ownBlock ≠ some g) : ¬ HBk tb mb lv g := by
  obtain ⟨⟨c1, k1⟩, k2, _, _⟩ := h.typed
  rintro (h9 | h9 | h9)
  · exact hg.apart k1 h1 h9
  · exact k2 g t cs hg h9
  · exact h2 h9
theorem KeyO.fr {S : Nat → Prop} {w w' : World} {base : Nat} {x : TV} (h : KeyO w base x) (hf : Fr S w w') (hs : ∀ g cs, Blk w g bT cs → ¬ S g) : KeyO w' base x :=
  ⟨h.1.fr hf (fun g hg => by obtain ⟨cs, hc⟩ := h.1.typed g hg; exact hs g cs hc), h.2⟩
theorem HpS.bnw {w : World} {base hb tb mb : Nat} {lv : Value} {L : List TV} (h : HpS w base hb tb mb lv L) (g : Nat) (cs : Array Value) (hc : Blk w g bT cs) : ¬ HBk tb mb lv g :=
  h.nwr hc (by decide) (fun e => by obtain ⟨c2, k⟩ := h.typed.2.2.1 g e; exact hc.apart k (by decide) rfl)
theorem DueI.below {w wz wy : World} {base hb tb mb : Nat} {lv ov lv1 : Value} {L O1 O L1 : List TV} {now : Int} (h : DueI w wz base hb tb mb lv L now O1 O ov lv1 L1) (k : Below wz.heap.size wz wy) : DueI w wy base hb tb mb lv L now O1 O ov lv1 L1 :=
  ⟨h.hp.below k, h.own.below k, fun x hx => ⟨(h.ky x hx).1.below k, (h.ky x hx).2⟩, h.pm, h.so, h.le, h.du, h.fr.trans (Fr.of_below k : Fr nob wz wy) (fun _ _ f => f.elim), h.nb, h.ap⟩
theorem DueI.step {w wz w2 : World} {base hb tb mb : Nat} {lv ov lv1 lv2 : Value} {L O L1 L2 : List TV} {now : Int} {x : TV} (h : DueI w wz base hb tb mb lv L now O O ov lv1 L1) (hh : HpS w base hb tb mb lv L) (hmin : ∀ y ∈ L1, leT x y) (hdu : x.a ≤ now)
    (hp2 : HpT w2 base tb mb lv2 L2) (hk2 : KeyO w2 base x) (hpm : L1.Perm (L2 ++ [x])) (hf : Fr (HBk tb mb lv1) wz w2) (hn : NewB wz lv1 lv2) : DueI w w2 base hb tb mb lv L now O (O ++ [x]) ov lv2 L2 := by
  have hx1 : x ∈ L1 := hpm.mem_iff.2 (by simp)
  have h21 : ∀ y ∈ L2, y ∈ L1 := fun y hy => hpm.mem_iff.2 (by simp [hy])
  refine ⟨⟨hf.blk h.hp.blk (h.hp.nwr h.hp.blk (by decide) (fun e => by obtain ⟨c2, k⟩ := h.hp.typed.2.2.1 _ e; exact h.hp.blk.apart k (by decide) rfl)), hp2, h.hp.bh⟩, h.own.fr hf (fun g hg => ?_), fun y hy => ?_, ?_, ?_, ?_, ?_, fr_nb h.fr hf h.nb, nb_nb h.nb hn h.fr.size, fun g hg e => ?_⟩
  · obtain ⟨cs, hc⟩ := h.own.typed g hg
    exact h.hp.nwr hc (by decide) (h.ap g hg)
  · rcases List.mem_append.1 hy with h9 | h9
    · exact (h.ky y h9).fr hf h.hp.bnw
    · rw [List.mem_singleton.1 h9]; exact hk2
  · refine h.pm.trans ?_
    rw [List.append_assoc]
    exact (hpm.trans List.perm_append_comm).append_left O
  · rw [List.pairwise_append]
    refine ⟨h.so, List.pairwise_singleton _ _, fun a ha b hb => ?_⟩
    rw [List.mem_singleton.1 hb]
    exact h.le a ha x hx1
  · intro a ha b hb
    rcases List.mem_append.1 ha with h9 | h9
    · exact h.le a h9 b (h21 b hb)
    · rw [List.mem_singleton.1 h9]; exact hmin b (h21 b hb)
  · intro a ha
    rcases List.mem_append.1 ha with h9 | h9
    · exact h.du a h9
    · rw [List.mem_singleton.1 h9]; exact hdu
  · rcases hn g e with h9 | h9
    · exact h.ap g hg h9
    · have := (h.own.lt g hg).2; omega
theorem DueI.app {w wz wy : World} {base hb tb mb : Nat} {lv ov lv1 v' : Value} {L O L1 : List TV} {now : Int} {x : TV} (h : DueI w wz base hb tb mb lv L now O (O ++ [x]) ov lv1 L1) (ha : App wz w.heap.size tmT 5 ov (O.length + 1) (tms O ++ tms [x]) v' wy) : DueI w wy base hb tb mb lv L now (O ++ [x]) (O ++ [x]) v' lv1 L1 := by
  have hT := h.own.typed
  obtain ⟨⟨c1, k1⟩, k2, k3, k4⟩ := h.hp.typed
  have hbt : ∀ g cs, Blk wz g bT cs → ¬ ov.ownBlock = some g := fun g cs hc e => by obtain ⟨c2, k⟩ := hT g e; exact hc.apart k (by decide) rfl
  refine ⟨h.hp.fr ha.fr (fun e => ?_) (fun e => ?_) (fun e => ?_) (fun g hg e => h.ap g e hg) hbt, ?_, fun y hy => (h.ky y hy).fr ha.fr hbt, h.pm, h.so, h.le, h.du, h.fr.trans ha.fr (fun k hk e => ?_), h.nb, fun g hg e => ?_⟩
  · obtain ⟨c2, k⟩ := hT _ e; exact k4.apart k (by decide) rfl
  · obtain ⟨c2, k⟩ := hT _ e; exact k1.apart k (by decide) rfl
  · obtain ⟨c2, k⟩ := hT _ e; exact k2 _ _ _ k rfl
  · rw [tms_app, List.length_append]; exact ha.own
  · have := (h.own.lt k e).1; omega
  · rcases ha.at_ with h9 | h9
    · exact h.ap g (h9 ▸ hg) e
    · have h8 := h9.symm.trans hg
      injection h8 with h8
      have := h.hp.lts g (.inr (.inr e))
      omega
theorem leT_a {x y : TV} (h : leT x y) : x.a ≤ y.a := by
  unfold leT at h
  rw [ordT_eq] at h
  unfold ordL at h
  by_cases h1 : cmpI x.a y.a = 0
  · have := (cmpI_zero _ _).1 h1; omega
  · rw [or_n h1] at h
    have := (cmpI_neg x.a y.a).1 (by omega)
    omega
def sliceLen (v : Value) : Nat := match v with | .slice _ n _ => n | _ => 0
def DuePost (w : World) (base hb tb mb : Nat) (lv : Value) (L : List TV) (now : Int) (e : Ending) (w' : World) : Prop :=
  ∃ O v lv' L', e = .returned v ∧ DueI w w' base hb tb mb lv L now O O v lv' L' ∧ ∀ y ∈ L', now < y.a

set_option maxRecDepth 100000 in
set_option maxHeartbeats 8000000 in
theorem hdue_any (w : World) (base hb tb mb : Nat) (lv : Value) (L : List TV) (now : Int) (h : HpS w base hb tb mb lv L) (hbase : base ≤ w.heap.size) :
    Calls Try.prog 15 #[.pointer (some ⟨hb, 0, none⟩), .int .i64 now] w (DuePost w base hb tb mb lv L now) := by
  have HI : Hid (DueI w w base hb tb mb lv L now [] [] (.slice none 0 0) lv L) := ⟨h, Own.nil _ _ _ _, (fun x hx => by cases hx), List.Perm.refl _, List.Pairwise.nil, (fun x hx => by cases hx), (fun x hx => by cases hx), Fr.refl _ w, fun g hg => .inl hg, (fun g hg => by cases hg)⟩
  have HH := hide h
  clear h
  go_enter Try.func15, Try.ntmps15
  go_wp2_with fail
  refine wp_scope_once 0 (fun a' w' => ∃ (O : List TV) (ov lv1 : Value) (L1 : List TV) (u6 u7 u8 u9 u10 u11 u12 u13 u14 u15 u16 u17 u18 u19 u20 u21 u22 u23 u24 u25 u26 u27 u28 u29 u30 u31 u32 u33 u34 u35 u36 u37 u38 u39 : Value), a' = { tmps := #[.pointer (some ⟨hb, 0, none⟩), .int .i64 now, undef, undef, .slice none 0 0, ov, u6, u7, u8, u9, u10, u11, u12, u13, u14, u15, u16, u17, u18, u19, u20, u21, u22, u23, u24, u25, u26, u27, u28, u29, u30, u31, u32, u33, u34, u35, u36, u37, u38, u39], defers := [] } ∧ Hid (DueI w w' base hb tb mb lv L now O O ov lv1 L1)) (fun a' _ => L.length - sliceLen (a'.tmps.getD 5 undef)) rfl ?_ ?_
  · intro hp
    have HP := hide hp
    clear hp
    go_wp2_with fail
    go_step3
    simp only [Exit.then]
    apply_assumption
    refine HP.out _ _ ?_
    exact ⟨[], .slice none 0 0, lv, L, _, _, _, _, _, _, _, _, _, _, _, _, _, _, _, _, _, _, _, _, _, _, _, _, _, _, _, _, _, _, _, _, _, _, rfl, HI.out⟩
  · rintro a' w' ⟨O, ov, lv1, L1, u6, u7, u8, u9, u10, u11, u12, u13, u14, u15, u16, u17, u18, u19, u20, u21, u22, u23, u24, u25, u26, u27, u28, u29, u30, u31, u32, u33, u34, u35, u36, u37, u38, u39, rfl, HJ⟩
    clear HI
    obtain ⟨oA, oc, rfl, hoc⟩ := HJ.out.own.sl.form
    obtain ⟨c0, t0, t1, hlt, htl, A, c, hlv, hc⟩ := HJ.out.hp.open
    by_cases hL : L1 = []
    · have HE := hide hL
      rw [hlv, hL] at t0
      clear hL hlv hc
      go_wp2_with fail
      simp only [Exit.jump]
      go_ret
      exact ⟨O, _, lv1, L1, rfl, HJ.out, fun y hy => by rw [HE.out] at hy; cases hy⟩
    · have hl0 : 0 < L1.length := by cases L1 with | nil => exact absurd rfl hL | cons => simp
      obtain ⟨M, ht, hg⟩ := HJ.out.hp.hp.st
      have hsl := ht.own.sl
      rw [hlv] at hsl t0
      obtain ⟨ad, rfl, hab, a0, _, _, _, _⟩ := tm_at hsl hl0 rfl
      have hz0 : ad.add (0 * 5) = ad := by rw [Nat.zero_mul]; unfold Addr.add; split <;> simp_all
      rw [hz0] at hab a0
      rw [← gt_of hl0] at a0
      have HMIN : Hid (∀ y ∈ L1, leT (gt L1 0) y) := by
        intro y hy
        obtain ⟨i, hi, rfl⟩ := List.getElem_of_mem hy
        rw [← gt_of hi]
        exact HJ.out.hp.hp.hp.min i hi
      obtain ⟨n, hn⟩ : ∃ n, n = L1.length := ⟨_, rfl⟩
      have HN := hide hn
      have HL0 := hide hl0
      rw [← hn] at t0 hl0
      have hn0 : (0 : Int) < (n : Int) := by omega
      obtain ⟨x, hx⟩ : ∃ x, x = gt L1 0 := ⟨_, rfl⟩
      rw [← hx] at a0 HMIN
      have HX := hide hx
      obtain ⟨xa, hxa⟩ : ∃ xa, xa = x.a := ⟨_, rfl⟩
      rw [← hxa] at a0
      have HXA := hide hxa
      clear hL hlv hc ht hg hsl hz0 hn hx hxa
      by_cases hle : xa ≤ now
      · have HLE := hide hle
        go_wp2_with fail
        refine (hpop_any w' base tb mb _ L1 HJ.out.hp.hp HL0.out).mono ?_
        rintro e w2 ⟨rfl, lv2, L2, hp2, hk2, hpm2, hf2, hnb2⟩
        have HNEW := hide (HJ.out.step HH.out HMIN.out (by have h9 := HXA.out; have h8 := HLE.out; omega) hp2 (by rw [HX.out]; exact hk2) (by rw [HX.out]; exact hpm2) hf2 hnb2)
        rw [← HX.out] at hk2 ⊢
        obtain ⟨yA, yc, hyv, _⟩ := hk2.1.sl.form
        have HK2 := hide hk2
        clear hp2 hk2 hpm2 hf2 hnb2 c0 t0 t1 hlt htl hab a0 HMIN HX HXA
        obtain ⟨ya, yk, yb, yf, yt, yw⟩ := x
        simp only at hyv
        subst hyv
        unfold TV.cells
        simp only
        have ta := tassert (.agg #[.int .i64 ya, .slice yA yb.length yc, .int .i64 yf, .int .i64 yt, .int .i64 yw])
        have HSL : Hid (∀ W : World, Sl (W.alloc (.cells #[.int .i64 ya, .slice yA yb.length yc, .int .i64 yf, .int .i64 yt, .int .i64 yw] tmT)) (W.heap.size + 1) (.slice (some ⟨W.heap.size, 0, none⟩) 1 1) 5 1 (tms [⟨ya, .slice yA yb.length yc, yb, yf, yt, yw⟩])) := fun W =>
          Sl.of_own (Own.new (n := 1) (sz := 5) (e := tmT) (base := 0) W #[.int .i64 ya, .slice yA yb.length yc, .int .i64 yf, .int .i64 yt, .int .i64 yw] (by omega) (by omega) rfl) |>.mono (by simp)
        have HNB : Hid (∀ cs, DueI w (w2.alloc (.cells cs tmT)) base hb tb mb lv L now O (O ++ [⟨ya, .slice yA yb.length yc, yb, yf, yt, yw⟩]) (.slice oA O.length oc) lv2 L2) := fun cs => HNEW.out.below ((Below.refl _ _).alloc (Nat.le_refl _) _)
        have hol : O.length + 1 ≤ L.length := by
          have h9 := HNEW.out.pm.length_eq
          simp at h9
          omega
        have hll := HH.out.hp.ln
        have hz2 := HNEW.out.fr.size
        go_wp2_with (at_builtin; refine wpList_app rfl tyT (.tmp 29) (.tmp 37) rfl w.heap.size (n := O.length) (m := 1) (B := w2.heap.size + 1) (xs := tms O) (news := tms [⟨ya, .slice yA yb.length yc, yb, yf, yt, yw⟩]) rfl rfl (by exact (HNB.out _).own) (by exact HSL.out w2) (tms_ok _ (by intro u hu; simp only [List.mem_singleton] at hu; subst hu; rfl)) (by omega) (by omega) (by simp; omega) ?_)
        intro v5 w5 ha5
        have HD5 := hide ((HNB.out _).app ha5)
        have HLN : Hid (sliceLen v5 = O.length + 1) := by
          obtain ⟨_, _, rfl, _⟩ := ha5.own.sl.form
          rfl
        clear ha5 HNEW HNB HSL ta
        go_wp2_with fail
        refine wp_goto ?_
        refine ⟨rfl, ⟨_, v5, lv2, L2, _, _, _, _, _, _, _, _, _, _, _, _, _, _, _, _, _, _, _, _, _, _, _, _, _, _, _, _, _, _, _, _, _, _, rfl, HD5⟩, ?_⟩
        show L.length - sliceLen v5 < L.length - O.length
        rw [HLN.out]
        omega
      · have HLE := hide hle
        go_wp2_with fail
        simp only [Exit.jump]
        go_ret
        exact ⟨O, _, lv1, L1, rfl, HJ.out, fun y hy => by
          have h1 := leT_a (HMIN.out y hy)
          have h2 := HXA.out
          have h3 := HLE.out
          omega⟩

end Go.Proofs.Ytogelnljkdcajaa
