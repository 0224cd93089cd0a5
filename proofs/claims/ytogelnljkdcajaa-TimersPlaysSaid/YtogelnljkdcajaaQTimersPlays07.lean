/- timers.Heap: Due. / The reference of layer 16: cell, One, Less, Right. / The reference of layer 16: Less, Right. -/
import Derived.Test.YtogelnljkdcajaaQTimersPlays06
import Derived.Test.YtogelnljkdcajaaQTimersPlays01

namespace Go.Proofs.Ytogelnljkdcajaa
open Go.RowKit Go.Sort
set_option linter.unusedVariables false
set_option linter.unusedSimpArgs false

/-- a goto loop whose label stands deep in a sequence -/
theorem wp_scope_once {P : Program} {a : Act} {w : World} {Q : Exit → Act → World → Prop} {c rest : Code} (l : Nat) (J : Act → World → Prop) (μ : Act → World → Nat) (hf : findLabel c l = some (Code.skip.seq rest))
    (first : (∀ a w, J a w → rest.wp P (Exit.jump l J Q) a w) → c.wp P (Exit.jump l J Q) a w)
    (pass : ∀ a w, J a w → rest.wp P (Exit.jump l (fun a' w' => J a' w' ∧ μ a' w' < μ a w) Q) a w) : (Code.scope c).wp P Q a w := by
  have hp2 : ∀ a w, J a w → rest.wp P (Exit.jump l J Q) a w := fun a w h => Code.wp_mono (fun e a' w' hq => by
    cases e with
    | goto l' => exact ⟨hq.1, hq.2.1⟩
    | _ => exact hq) (pass a w h)
  exact wp_scope_jumps l J μ hf (first hp2) (fun a w h => wp_seq (wp_skip (pass a w h)))

structure DueI (w wz : World) (base hb tb mb : Nat) (lv : Value) (L : List TV) (now : Int) (O1 O : List TV) (ov lv1 : Value) (L1 : List TV) : Prop where
  hp : HpS wz base hb tb mb lv1 L1
  own : Own wz w.heap.size tmT 5 ov O1.length (tms O1)
  ky : ∀ x ∈ O, KeyO wz base x
  pm : L.Perm (O ++ L1)
  so : O.Pairwise leT
  le : ∀ x ∈ O, ∀ y ∈ L1, leT x y
  du : ∀ x ∈ O, x.a ≤ now
  fr : Fr (HBk tb mb lv) w wz
  nb : NewB w lv lv1
  ap : ∀ g, ov.ownBlock = some g → lv1.ownBlock ≠ some g
theorem HpS.fr {S : Nat → Prop} {w w' : World} {base hb tb mb : Nat} {lv : Value} {L : List TV} (h : HpS w base hb tb mb lv L) (hf : Fr S w w') (h1 : ¬ S hb) (h2 : ¬ S tb) (h3 : ¬ S mb) (h4 : ∀ g, lv.ownBlock = some g → ¬ S g) (h5 : ∀ g cs, Blk w g bT cs → ¬ S g) : HpS w' base hb tb mb lv L := by
  obtain ⟨M, ht, hg⟩ := h.hp.st
  exact ⟨hf.blk h.blk h1, ⟨⟨M, ht.fr hf h2 h3 h4 h5, hg⟩, h.hp.hp, h.hp.ln⟩, h.bh⟩
/-- a heap's row of timers, its block -/
theorem HpS.typed {w : World} {base hb tb mb : Nat} {lv : Value} {L : List TV} (h : HpS w base hb tb mb lv L) : (∃ cs, Blk w tb treeT cs) ∧ (∀ g t cs, Blk w g t cs → g ≠ mb) ∧ (∀ g, lv.ownBlock = some g → ∃ cs, Blk w g tmT cs) ∧ Blk w hb hpT #[.pointer (some ⟨tb, 0, none⟩)] := by
  obtain ⟨M, ht, hg⟩ := h.hp.st
  exact ⟨⟨_, ht.blk⟩, fun g t cs hc e => ht.map.ne_blk hc e.symm, ht.own.typed, h.blk⟩
/-- a block of another type than the heap's is not written by its calls -/
theorem HpS.nwr {w : World} {base hb tb mb : Nat} {lv : Value} {L : List TV} (h : HpS w base hb tb mb lv L) {g t : Nat} {cs : Array Value} (hg : Blk w g t cs) (h1 : t ≠ treeT) (h2 : lv.ownBlock ≠ some g) : ¬ HBk tb mb lv g := by
  obtain ⟨⟨c1, k1⟩, k2, _, _⟩ := h.typed
  rintro (h9 | h9 | h9)
  · exact hg.apart k1 h1 h9
  · exact k2 g t cs hg h9
  · exact h2 h9
theorem KeyO.fr {S : Nat → Prop} {w w' : World} {base : Nat} {x : TV} (h : KeyO w base x) (hf : Fr S w w') (hs : ∀ g cs, Blk w g bT cs → ¬ S g) : KeyO w' base x :=
  ⟨h.1.fr hf (fun g hg => by obtain ⟨cs, hc⟩ := h.1.typed g hg; exact hs g cs hc), h.2⟩
theorem HpS.bnw {w : World} {base hb tb mb : Nat} {lv : Value} {L : List TV} (h : HpS w base hb tb mb lv L) (g : Nat) (cs : Array Value) (hc : Blk w g bT cs) : ¬ HBk tb mb lv g :=
  h.nwr hc (by decide) (fun e => by obtain ⟨c2, k⟩ := h.typed.2.2.1 g e; exact hc.apart k (by decide) rfl)
theorem DueI.below {w wz wy : World} {base hb tb mb : Nat} {lv ov lv1 : Value} {L O1 O L1 : List TV} {now : Int} (h : DueI w wz base hb tb mb lv L now O1 O ov lv1 L1) (k : Below wz.heap.size wz wy) : DueI w wy base hb tb mb lv L now O1 O ov lv1 L1 :=
  ⟨h.hp.below k, h.own.below k, fun x hx => ⟨(h.ky x hx).1.below k, (h.ky x hx).2⟩, h.pm, h.so, h.le, h.du, h.fr.trans (Fr.of_below k : Fr nob wz wy) (fun _ _ f => f.elim), h.nb, h.ap⟩
theorem DueI.step {w wz w2 : World} {base hb tb mb : Nat} {lv ov lv1 lv2 : Value} {L O L1 L2 : List TV} {now : Int} {x : TV} (h : DueI w wz base hb tb mb lv L now O O ov lv1 L1) (hh : HpS w base hb tb mb lv L) (hmin : ∀ y ∈ L1, leT x y) (hdu : x.a ≤ now)
    (hp2 : HpT w2 base tb mb lv2 L2) (hk2 : KeyO w2 base x) (hpm : L1.Perm (L2 ++ [x])) (hf : Fr (HBk tb mb lv1) wz w2) (hn : NewB wz lv1 lv2) : DueI w w2 base hb tb mb lv L now O (O ++ [x]) ov lv2 L2 := by
  have hx1 : x ∈ L1 := hpm.mem_iff.2 (by simp)
  have h21 : ∀ y ∈ L2, y ∈ L1 := fun y hy => hpm.mem_iff.2 (by simp [hy])
  refine ⟨⟨hf.blk h.hp.blk (h.hp.nwr h.hp.blk (by decide) (fun e => by obtain ⟨c2, k⟩ := h.hp.typed.2.2.1 _ e; exact h.hp.blk.apart k (by decide) rfl)), hp2, h.hp.bh⟩, h.own.fr hf (fun g hg => ?_), fun y hy => ?_, ?_, ?_, ?_, ?_, fr_nb h.fr hf h.nb, nb_nb h.nb hn h.fr.size, fun g hg e => ?_⟩
  · obtain ⟨cs, hc⟩ := h.own.typed g hg
    exact h.hp.nwr hc (by decide) (h.ap g hg)
  · rcases List.mem_append.1 hy with h9 | h9
    · exact (h.ky y h9).fr hf h.hp.bnw
    · rw [List.mem_singleton.1 h9]; exact hk2
  · refine h.pm.trans ?_
    rw [List.append_assoc]
    exact (hpm.trans List.perm_append_comm).append_left O
  · rw [List.pairwise_append]
    refine ⟨h.so, List.pairwise_singleton _ _, fun a ha b hb => ?_⟩
    rw [List.mem_singleton.1 hb]
    exact h.le a ha x hx1
  · intro a ha b hb
    rcases List.mem_append.1 ha with h9 | h9
    · exact h.le a h9 b (h21 b hb)
    · rw [List.mem_singleton.1 h9]; exact hmin b (h21 b hb)
  · intro a ha
    rcases List.mem_append.1 ha with h9 | h9
    · exact h.du a h9
    · rw [List.mem_singleton.1 h9]; exact hdu
  · rcases hn g e with h9 | h9
    · exact h.ap g hg h9
    · have := (h.own.lt g hg).2; omega
theorem DueI.app {w wz wy : World} {base hb tb mb : Nat} {lv ov lv1 v' : Value} {L O L1 : List TV} {now : Int} {x : TV} (h : DueI w wz base hb tb mb lv L now O (O ++ [x]) ov lv1 L1) (ha : App wz w.heap.size tmT 5 ov (O.length + 1) (tms O ++ tms [x]) v' wy) : DueI w wy base hb tb mb lv L now (O ++ [x]) (O ++ [x]) v' lv1 L1 := by
  have hT := h.own.typed
  obtain ⟨⟨c1, k1⟩, k2, k3, k4⟩ := h.hp.typed
  have hbt : ∀ g cs, Blk wz g bT cs → ¬ ov.ownBlock = some g := fun g cs hc e => by obtain ⟨c2, k⟩ := hT g e; exact hc.apart k (by decide) rfl
  refine ⟨h.hp.fr ha.fr (fun e => ?_) (fun e => ?_) (fun e => ?_) (fun g hg e => h.ap g e hg) hbt, ?_, fun y hy => (h.ky y hy).fr ha.fr hbt, h.pm, h.so, h.le, h.du, h.fr.trans ha.fr (fun k hk e => ?_), h.nb, fun g hg e => ?_⟩
  · obtain ⟨c2, k⟩ := hT _ e; exact k4.apart k (by decide) rfl
  · obtain ⟨c2, k⟩ := hT _ e; exact k1.apart k (by decide) rfl
  · obtain ⟨c2, k⟩ := hT _ e; exact k2 _ _ _ k rfl
  · rw [tms_app, List.length_append]; exact ha.own
  · have := (h.own.lt k e).1; omega
  · rcases ha.at_ with h9 | h9
    · exact h.ap g (h9 ▸ hg) e
    · have h8 := h9.symm.trans hg
      injection h8 with h8
      have := h.hp.lts g (.inr (.inr e))
      omega
theorem leT_a {x y : TV} (h : leT x y) : x.a ≤ y.a := by
  unfold leT at h
  rw [ordT_eq] at h
  unfold ordL at h
  by_cases h1 : cmpI x.a y.a = 0
  · have := (cmpI_zero _ _).1 h1; omega
  · rw [or_n h1] at h
    have := (cmpI_neg x.a y.a).1 (by omega)
    omega
def sliceLen (v : Value) : Nat := match v with | .slice _ n _ => n | _ => 0
def DuePost (w : World) (base hb tb mb : Nat) (lv : Value) (L : List TV) (now : Int) (e : Ending) (w' : World) : Prop :=
  ∃ O v lv' L', e = .returned v ∧ DueI w w' base hb tb mb lv L now O O v lv' L' ∧ ∀ y ∈ L', now < y.a

set_option maxRecDepth 100000 in
set_option maxHeartbeats 8000000 in
theorem hdue_any (w : World) (base hb tb mb : Nat) (lv : Value) (L : List TV) (now : Int) (h : HpS w base hb tb mb lv L) (hbase : base ≤ w.heap.size) :
    Calls Try.prog 15 #[.pointer (some ⟨hb, 0, none⟩), .int .i64 now] w (DuePost w base hb tb mb lv L now) := by
  have HI : Hid (DueI w w base hb tb mb lv L now [] [] (.slice none 0 0) lv L) := ⟨h, Own.nil _ _ _ _, (fun x hx => by cases hx), List.Perm.refl _, List.Pairwise.nil, (fun x hx => by cases hx), (fun x hx => by cases hx), Fr.refl _ w, fun g hg => .inl hg, (fun g hg => by cases hg)⟩
  have HH := hide h
  clear h
  go_enter Try.func15, Try.ntmps15
  go_wp2_with fail
  refine wp_scope_once 0 (fun a' w' => ∃ (O : List TV) (ov lv1 : Value) (L1 : List TV) (u6 u7 u8 u9 u10 u11 u12 u13 u14 u15 u16 u17 u18 u19 u20 u21 u22 u23 u24 u25 u26 u27 u28 u29 u30 u31 u32 u33 u34 u35 u36 u37 u38 u39 : Value), a' = { tmps := #[.pointer (some ⟨hb, 0, none⟩), .int .i64 now, undef, undef, .slice none 0 0, ov, u6, u7, u8, u9, u10, u11, u12, u13, u14, u15, u16, u17, u18, u19, u20, u21, u22, u23, u24, u25, u26, u27, u28, u29, u30, u31, u32, u33, u34, u35, u36, u37, u38, u39], defers := [] } ∧ Hid (DueI w w' base hb tb mb lv L now O O ov lv1 L1)) (fun a' _ => L.length - sliceLen (a'.tmps.getD 5 undef)) rfl ?_ ?_
  · intro hp
    have HP := hide hp
    clear hp
    go_wp2_with fail
    go_step3
    simp only [Exit.then]
    apply_assumption
    refine HP.out _ _ ?_
    exact ⟨[], .slice none 0 0, lv, L, _, _, _, _, _, _, _, _, _, _, _, _, _, _, _, _, _, _, _, _, _, _, _, _, _, _, _, _, _, _, _, _, _, _, rfl, HI.out⟩
  · rintro a' w' ⟨O, ov, lv1, L1, u6, u7, u8, u9, u10, u11, u12, u13, u14, u15, u16, u17, u18, u19, u20, u21, u22, u23, u24, u25, u26, u27, u28, u29, u30, u31, u32, u33, u34, u35, u36, u37, u38, u39, rfl, HJ⟩
    clear HI
    obtain ⟨oA, oc, rfl, hoc⟩ := HJ.out.own.sl.form
    obtain ⟨c0, t0, t1, hlt, htl, A, c, hlv, hc⟩ := HJ.out.hp.open
    by_cases hL : L1 = []
    · have HE := hide hL
      rw [hlv, hL] at t0
      clear hL hlv hc
      go_wp2_with fail
      simp only [Exit.jump]
      go_ret
      exact ⟨O, _, lv1, L1, rfl, HJ.out, fun y hy => by rw [HE.out] at hy; cases hy⟩
    · have hl0 : 0 < L1.length := by cases L1 with | nil => exact absurd rfl hL | cons => simp
      obtain ⟨M, ht, hg⟩ := HJ.out.hp.hp.st
      have hsl := ht.own.sl
      rw [hlv] at hsl t0
      obtain ⟨ad, rfl, hab, a0, _, _, _, _⟩ := tm_at hsl hl0 rfl
      have hz0 : ad.add (0 * 5) = ad := by rw [Nat.zero_mul]; unfold Addr.add; split <;> simp_all
      rw [hz0] at hab a0
      rw [← gt_of hl0] at a0
      have HMIN : Hid (∀ y ∈ L1, leT (gt L1 0) y) := by
        intro y hy
        obtain ⟨i, hi, rfl⟩ := List.getElem_of_mem hy
        rw [← gt_of hi]
        exact HJ.out.hp.hp.hp.min i hi
      obtain ⟨n, hn⟩ : ∃ n, n = L1.length := ⟨_, rfl⟩
      have HN := hide hn
      have HL0 := hide hl0
      rw [← hn] at t0 hl0
      have hn0 : (0 : Int) < (n : Int) := by omega
      obtain ⟨x, hx⟩ : ∃ x, x = gt L1 0 := ⟨_, rfl⟩
      rw [← hx] at a0 HMIN
      have HX := hide hx
      obtain ⟨xa, hxa⟩ : ∃ xa, xa = x.a := ⟨_, rfl⟩
      rw [← hxa] at a0
      have HXA := hide hxa
      clear hL hlv hc ht hg hsl hz0 hn hx hxa
      by_cases hle : xa ≤ now
      · have HLE := hide hle
        go_wp2_with fail
        refine (hpop_any w' base tb mb _ L1 HJ.out.hp.hp HL0.out).mono ?_
        rintro e w2 ⟨rfl, lv2, L2, hp2, hk2, hpm2, hf2, hnb2⟩
        have HNEW := hide (HJ.out.step HH.out HMIN.out (by have h9 := HXA.out; have h8 := HLE.out; omega) hp2 (by rw [HX.out]; exact hk2) (by rw [HX.out]; exact hpm2) hf2 hnb2)
        rw [← HX.out] at hk2 ⊢
        obtain ⟨yA, yc, hyv, _⟩ := hk2.1.sl.form
        have HK2 := hide hk2
        clear hp2 hk2 hpm2 hf2 hnb2 c0 t0 t1 hlt htl hab a0 HMIN HX HXA
        obtain ⟨ya, yk, yb, yf, yt, yw⟩ := x
        simp only at hyv
        subst hyv
        unfold TV.cells
        simp only
        have ta := tassert (.agg #[.int .i64 ya, .slice yA yb.length yc, .int .i64 yf, .int .i64 yt, .int .i64 yw])
        have HSL : Hid (∀ W : World, Sl (W.alloc (.cells #[.int .i64 ya, .slice yA yb.length yc, .int .i64 yf, .int .i64 yt, .int .i64 yw] tmT)) (W.heap.size + 1) (.slice (some ⟨W.heap.size, 0, none⟩) 1 1) 5 1 (tms [⟨ya, .slice yA yb.length yc, yb, yf, yt, yw⟩])) := fun W =>
          Sl.of_own (Own.new (n := 1) (sz := 5) (e := tmT) (base := 0) W #[.int .i64 ya, .slice yA yb.length yc, .int .i64 yf, .int .i64 yt, .int .i64 yw] (by omega) (by omega) rfl) |>.mono (by simp)
        have HNB : Hid (∀ cs, DueI w (w2.alloc (.cells cs tmT)) base hb tb mb lv L now O (O ++ [⟨ya, .slice yA yb.length yc, yb, yf, yt, yw⟩]) (.slice oA O.length oc) lv2 L2) := fun cs => HNEW.out.below ((Below.refl _ _).alloc (Nat.le_refl _) _)
        have hol : O.length + 1 ≤ L.length := by
          have h9 := HNEW.out.pm.length_eq
          simp at h9
          omega
        have hll := HH.out.hp.ln
        have hz2 := HNEW.out.fr.size
        go_wp2_with (at_builtin; refine wpList_app rfl tyT (.tmp 29) (.tmp 37) rfl w.heap.size (n := O.length) (m := 1) (B := w2.heap.size + 1) (xs := tms O) (news := tms [⟨ya, .slice yA yb.length yc, yb, yf, yt, yw⟩]) rfl rfl (by exact (HNB.out _).own) (by exact HSL.out w2) (tms_ok _ (by intro u hu; simp only [List.mem_singleton] at hu; subst hu; rfl)) (by omega) (by omega) (by simp; omega) ?_)
        intro v5 w5 ha5
        have HD5 := hide ((HNB.out _).app ha5)
        have HLN : Hid (sliceLen v5 = O.length + 1) := by
          obtain ⟨_, _, rfl, _⟩ := ha5.own.sl.form
          rfl
        clear ha5 HNEW HNB HSL ta
        go_wp2_with fail
        refine wp_goto ?_
        refine ⟨rfl, ⟨_, v5, lv2, L2, _, _, _, _, _, _, _, _, _, _, _, _, _, _, _, _, _, _, _, _, _, _, _, _, _, _, _, _, _, _, _, _, _, _, rfl, HD5⟩, ?_⟩
        show L.length - sliceLen v5 < L.length - O.length
        rw [HLN.out]
        omega
      · have HLE := hide hle
        go_wp2_with fail
        simp only [Exit.jump]
        go_ret
        exact ⟨O, _, lv1, L1, rfl, HJ.out, fun y hy => by
          have h1 := leT_a (HMIN.out y hy)
          have h2 := HXA.out
          have h3 := HLE.out
          omega⟩

end Go.Proofs.Ytogelnljkdcajaa

namespace Go.Proofs.Ytogelnljkdcajaa
open Go.RowKit Go.Sort
set_option linter.unusedVariables false
set_option linter.unusedSimpArgs false

abbrev rtT : Nat := 26
theorem tyRT : SlTy Try.prog 27 rtT 5 56 (.agg #[.int .i64 0, .slice none 0 0, .int .i64 0, .int .i64 0, .int .i64 0]) := ⟨Try.underlying27, info_parts (by kernel_rfl), rfl, by omega⟩

set_option maxHeartbeats 4000000 in
theorem rcell_any (a f t x : Int) (A : Option Addr) (n c : Nat) (w : World) :
    Calls Try.prog 31 #[.agg #[.int .i64 a, .slice A n c, .int .i64 f, .int .i64 t, .int .i64 x]] w fun e w' => e = .returned (rcV (.slice A n c) f t (.slice none 0 0) 0 0 0 0 false false) ∧ Below w.heap.size w w' := by
  go_enter Try.func31, Try.ntmps31
  go_wp2_with fail
  have hB1 : Below w.heap.size w ((w.alloc (.cells #[.int .i64 a, .slice A n c, .int .i64 f, .int .i64 t, .int .i64 x] rtT)).alloc (.cells #[.slice A n c, .int .i64 f, .int .i64 t, .slice none 0 0, .int .i64 0, .int .i64 0, .int .i64 0, .int .i64 0, .bool false, .bool false] rcT)) := ((Below.refl w.heap.size w).alloc (Nat.le_refl _) _).alloc (by simp) _
  have hK : Blk ((w.alloc (.cells #[.int .i64 a, .slice A n c, .int .i64 f, .int .i64 t, .int .i64 x] rtT)).alloc (.cells #[.slice A n c, .int .i64 f, .int .i64 t, .slice none 0 0, .int .i64 0, .int .i64 0, .int .i64 0, .int .i64 0, .bool false, .bool false] rcT)) (w.heap.size + 1) rcT #[.slice A n c, .int .i64 f, .int .i64 t, .slice none 0 0, .int .i64 0, .int .i64 0, .int .i64 0, .int .i64 0, .bool false, .bool false] := by
    have h9 := Blk.new (w.alloc (.cells #[.int .i64 a, .slice A n c, .int .i64 f, .int .i64 t, .int .i64 x] rtT)) rcT #[.slice A n c, .int .i64 f, .int .i64 t, .slice none 0 0, .int .i64 0, .int .i64 0, .int .i64 0, .int .i64 0, .bool false, .bool false]
    simpa using h9
  change bodyPost _ _ _ _ _ ((w.alloc (.cells #[.int .i64 a, .slice A n c, .int .i64 f, .int .i64 t, .int .i64 x] rtT)).alloc (.cells #[.slice A n c, .int .i64 f, .int .i64 t, .slice none 0 0, .int .i64 0, .int .i64 0, .int .i64 0, .int .i64 0, .bool false, .bool false] rcT))
  generalize ((w.alloc (.cells #[.int .i64 a, .slice A n c, .int .i64 f, .int .i64 t, .int .i64 x] rtT)).alloc (.cells #[.slice A n c, .int .i64 f, .int .i64 t, .slice none 0 0, .int .i64 0, .int .i64 0, .int .i64 0, .int .i64 0, .bool false, .bool false] rcT)) = w5 at *
  have c0 : w5.cell? ⟨w.heap.size + 1, 0, none⟩ = some (.slice A n c) := hK.cell 0
  have c1 : w5.cell? ⟨w.heap.size + 1, 1, none⟩ = some (.int .i64 f) := hK.cell 1
  have c2 : w5.cell? ⟨w.heap.size + 1, 2, none⟩ = some (.int .i64 t) := hK.cell 2
  have c3 : w5.cell? ⟨w.heap.size + 1, 3, none⟩ = some (.slice none 0 0) := hK.cell 3
  have c4 : w5.cell? ⟨w.heap.size + 1, 4, none⟩ = some (.int .i64 0) := hK.cell 4
  have c5 : w5.cell? ⟨w.heap.size + 1, 5, none⟩ = some (.int .i64 0) := hK.cell 5
  have c6 : w5.cell? ⟨w.heap.size + 1, 6, none⟩ = some (.int .i64 0) := hK.cell 6
  have c7 : w5.cell? ⟨w.heap.size + 1, 7, none⟩ = some (.int .i64 0) := hK.cell 7
  have c8 : w5.cell? ⟨w.heap.size + 1, 8, none⟩ = some (.bool false) := hK.cell 8
  have c9 : w5.cell? ⟨w.heap.size + 1, 9, none⟩ = some (.bool false) := hK.cell 9
  have hres : Try.f31.results = #[.cell 2 rcT] := by kernel_rfl
  refine bodyPost_ret (v := rcV (.slice A n c) f t (.slice none 0 0) 0 0 0 0 false false) ?_ rfl ⟨rfl, hB1⟩
  simp [results, hres, go_sem, c0, c1, c2, c3, c4, c5, c6, c7, c8, c9, rcV]

theorem ordC_zero (x y : Win) (D E : List Int) : ordC x y D E = 0 ↔ x = y ∧ D = E := by
  unfold ordC
  by_cases h : x = y
  · rw [if_pos h, bytesR_zero]; simp [h]
  · rw [if_neg h]
    constructor
    · intro h9; split at h9 <;> omega
    · rintro ⟨h9, _⟩; exact absurd h9 h
theorem ordI_zero (x y : Win) : ordI x y = 0 ↔ x = y := by
  obtain ⟨f, t⟩ := x
  obtain ⟨f', t'⟩ := y
  have h1 := cmpI_zero t t'
  have h2 := cmpI_zero f f'
  unfold ordI orI
  simp only [Win.mk.injEq]
  constructor
  · intro h; split at h
    · rename_i h9; exact ⟨h2.1 h, h1.1 h9⟩
    · rename_i h9; exact absurd h h9
  · rintro ⟨rfl, rfl⟩
    rw [if_pos (h1.2 rfl)]; exact h2.2 rfl
theorem ordC_neg (x y : Win) (D E : List Int) : ordC x y D E < 0 ↔ orI (ordI x y) (cmpB D E) < 0 := by
  unfold ordC
  by_cases h : x = y
  · rw [if_pos h, or_z ((ordI_zero x y).2 h)]
    exact (bytesR_sign D E).1
  · rw [if_neg h, or_n (fun h9 => h ((ordI_zero x y).1 h9)), ordI_neg]
    split
    · rename_i h9; simp [h9]
    · rename_i h9; simp [h9]
/-- has it the same key? -/
def oneK (x y : TV) : Bool := decide (x.win = y.win ∧ x.kb = y.kb)
theorem ltT_ref (x y : TV) : ltT x y = if x.a = y.a then (if ordC x.win y.win x.kb y.kb = 0 then decide (x.w < y.w) else decide (ordC x.win y.win x.kb y.kb < 0)) else decide (x.a < y.a) := by
  unfold ltT
  rw [ordT_eq]
  unfold ordL
  by_cases h1 : x.a = y.a
  · rw [if_pos h1, or_z ((cmpI_zero _ _).2 h1)]
    by_cases h2 : ordC x.win y.win x.kb y.kb = 0
    · rw [if_pos h2]
      obtain ⟨h3, h4⟩ := (ordC_zero _ _ _ _).1 h2
      rw [or_z ((ordI_zero _ _).2 h3), or_z ((cmpB_zero _ _).2 h4)]
      exact decide_eq_decide.2 (cmpI_neg _ _)
    · rw [if_neg h2]
      refine decide_eq_decide.2 ?_
      rw [ordC_neg]
      have h3 := ordC_zero x.win y.win x.kb y.kb
      by_cases h5 : ordI x.win y.win = 0
      · rw [or_z h5, or_z h5]
        have h6 : cmpB x.kb y.kb ≠ 0 := fun h9 => h2 (h3.2 ⟨(ordI_zero _ _).1 h5, (cmpB_zero _ _).1 h9⟩)
        rw [or_n h6]
      · rw [or_n h5, or_n h5]
  · rw [if_neg h1, or_n (fun h9 => h1 ((cmpI_zero _ _).1 h9))]
    exact decide_eq_decide.2 (cmpI_neg _ _)

/-- two timers boxed: what is read of them behind -/
theorem two_boxes (w : World) (T : Nat) (cs ds : Array Value) : Blk ((w.alloc (.cells cs T)).alloc (.cells ds T)) w.heap.size T cs ∧ Blk ((w.alloc (.cells cs T)).alloc (.cells ds T)) (w.heap.size + 1) T ds ∧ Below w.heap.size w ((w.alloc (.cells cs T)).alloc (.cells ds T)) := by
  refine ⟨(Blk.new w _ _).alloc _, ?_, ((Below.refl w.heap.size w).alloc (Nat.le_refl _) _).alloc (by simp) _⟩
  have h9 := Blk.new (w.alloc (.cells cs T)) T ds
  simpa using h9

set_option maxHeartbeats 4000000 in
theorem rone_any (x y : TV) (B : Nat) (w : World) (hx : KeyIn w B x) (hy : KeyIn w B y) (hB : B ≤ w.heap.size) :
    Calls Try.prog 23 #[.agg x.cells.toArray, .agg y.cells.toArray] w fun e w' => e = .returned (.bool (oneK x y)) ∧ Below w.heap.size w w' := by
  obtain ⟨A, c, hkx, hc⟩ := hx.sl.form
  obtain ⟨A', c', hky, hc'⟩ := hy.sl.form
  have HX := hide hx
  have HY := hide hy
  obtain ⟨r, hr⟩ : ∃ r, r = oneK x y := ⟨_, rfl⟩
  have HR : Hid (decide (ordC x.win y.win x.kb y.kb = 0) = r) := by
    show _ = _
    rw [hr]
    unfold oneK
    exact decide_eq_decide.2 (ordC_zero _ _ _ _)
  rw [← hr]
  clear hr hx hy
  obtain ⟨xa, xk, xb, xf, xt, xw⟩ := x
  obtain ⟨ya, yk, yb, yf, yt, yw⟩ := y
  simp only at hkx hky hc hc' HR
  subst hkx hky
  unfold TV.cells
  simp only
  have HOD : Hid (∀ X : World, Below w.heap.size w X → Calls Try.prog 38 #[rcV (.slice A xb.length c) xf xt (.slice none 0 0) 0 0 0 0 false false, rcV (.slice A' yb.length c') yf yt (.slice none 0 0) 0 0 0 0 false false] X fun e w' => e = .returned (.int .i64 (ordC ⟨xf, xt⟩ ⟨yf, yt⟩ xb yb)) ∧ Below X.heap.size X w') := fun X hX =>
    rorder_any A A' none none c c' 0 0 0 0 xb yb xf xt yf yt 0 0 0 0 0 0 0 0 false false false false B B X ((HX.out.sl).below (hX.mono hB)) ((HY.out.sl).below (hX.mono hB)) HX.out.b8 HY.out.b8 (Nat.le_trans hB hX.size) (Nat.le_trans hB hX.size)
  obtain ⟨HP0, HQ0, HB0⟩ := two_boxes w rtT #[.int .i64 xa, .slice A xb.length c, .int .i64 xf, .int .i64 xt, .int .i64 xw] #[.int .i64 ya, .slice A' yb.length c', .int .i64 yf, .int .i64 yt, .int .i64 yw]
  have HP := hide HP0
  have HQ := hide HQ0
  have HB1 := hide HB0
  clear HP0 HQ0 HB0 HX HY
  generalize hxl : xb.length = n at *
  generalize hyl : yb.length = m at *
  clear hxl hyl
  go_enter Try.func23, Try.ntmps23
  go_upto_region 1 with fail
  change Code.wp _ _ _ _ ((w.alloc (.cells #[.int .i64 xa, .slice A n c, .int .i64 xf, .int .i64 xt, .int .i64 xw] rtT)).alloc (.cells #[.int .i64 ya, .slice A' m c', .int .i64 yf, .int .i64 yt, .int .i64 yw] rtT))
  generalize ((w.alloc (.cells #[.int .i64 xa, .slice A n c, .int .i64 xf, .int .i64 xt, .int .i64 xw] rtT)).alloc (.cells #[.int .i64 ya, .slice A' m c', .int .i64 yf, .int .i64 yt, .int .i64 yw] rtT)) = w1 at *
  obtain ⟨pb, hpb⟩ : ∃ pb, pb = w.heap.size := ⟨_, rfl⟩
  obtain ⟨qb, hqb⟩ : ∃ qb, qb = w.heap.size + 1 := ⟨_, rfl⟩
  rw [← hqb] at HQ ⊢
  rw [← hpb] at HP ⊢
  clear hpb hqb
  have p0 := Aft.cell (HP.out.cell 0) HP.out.lt
  have p1 := Aft.cell (HP.out.cell 1) HP.out.lt
  have p2 := Aft.cell (HP.out.cell 2) HP.out.lt
  have p3 := Aft.cell (HP.out.cell 3) HP.out.lt
  have p4 := Aft.cell (HP.out.cell 4) HP.out.lt
  have q0 := Aft.cell (HQ.out.cell 0) HQ.out.lt
  have q1 := Aft.cell (HQ.out.cell 1) HQ.out.lt
  have q2 := Aft.cell (HQ.out.cell 2) HQ.out.lt
  have q3 := Aft.cell (HQ.out.cell 3) HQ.out.lt
  have q4 := Aft.cell (HQ.out.cell 4) HQ.out.lt
  simp at p0 p1 p2 p3 p4 q0 q1 q2 q3 q4
  have hp := HP.out.lt
  have hq := HQ.out.lt
  have HOD1 : Hid (∀ p : Aft w1, Below w.heap.size w p.w') := fun p => HB1.out.trans (p.h.mono HB1.out.size)
  refine wp_region_aft (by kernel_rfl) (by kernel_rfl) ?_
  repeat (go_big_quiet_step (first
    | (go_at_call 31; with_reducible exact calls_aft (rcell_any _ _ _ _ _ _ _ _))
    | (go_at_call 38; with_reducible exact calls_aft (HOD.out _ (HOD1.out _)))))
  refine wpQuiet_nil ?_
  intro w9 hb9
  have HB9 := hide (HB1.out.trans (hb9.mono HB1.out.size))
  clear hb9 p0 p1 p2 p3 p4 q0 q1 q2 q3 q4
  go_wp2_with fail
  go_ret
  rw [← HR.out]
  exact ⟨rfl, HB9.out⟩

end Go.Proofs.Ytogelnljkdcajaa

namespace Go.Proofs.Ytogelnljkdcajaa
open Go.RowKit Go.Sort
set_option linter.unusedVariables false
set_option linter.unusedSimpArgs false

set_option maxHeartbeats 4000000 in
theorem rlessT_any (x y : TV) (B : Nat) (w : World) (hx : KeyIn w B x) (hy : KeyIn w B y) (hB : B ≤ w.heap.size) :
    Calls Try.prog 37 #[.agg x.cells.toArray, .agg y.cells.toArray] w fun e w' => e = .returned (.bool (ltT x y)) ∧ Below w.heap.size w w' := by
  obtain ⟨A, c, hkx, hc⟩ := hx.sl.form
  obtain ⟨A', c', hky, hc'⟩ := hy.sl.form
  have HX := hide hx
  have HY := hide hy
  obtain ⟨r, hr⟩ : ∃ r, r = ltT x y := ⟨_, rfl⟩
  have HR : Hid (r = if x.a = y.a then (if ordC x.win y.win x.kb y.kb = 0 then decide (x.w < y.w) else decide (ordC x.win y.win x.kb y.kb < 0)) else decide (x.a < y.a)) := by
    show _ = _
    rw [hr, ltT_ref]
  rw [← hr]
  clear hr hx hy
  obtain ⟨xa, xk, xb, xf, xt, xw⟩ := x
  obtain ⟨ya, yk, yb, yf, yt, yw⟩ := y
  simp only at hkx hky hc hc' HR
  subst hkx hky
  unfold TV.cells
  simp only
  obtain ⟨o, ho⟩ : ∃ o, o = ordC ⟨xf, xt⟩ ⟨yf, yt⟩ xb yb := ⟨_, rfl⟩
  have HOD : Hid (∀ X : World, Below w.heap.size w X → Calls Try.prog 38 #[rcV (.slice A xb.length c) xf xt (.slice none 0 0) 0 0 0 0 false false, rcV (.slice A' yb.length c') yf yt (.slice none 0 0) 0 0 0 0 false false] X fun e w' => e = .returned (.int .i64 o) ∧ Below X.heap.size X w') := by
    intro X hX
    rw [ho]
    exact rorder_any A A' none none c c' 0 0 0 0 xb yb xf xt yf yt 0 0 0 0 0 0 0 0 false false false false B B X ((HX.out.sl).below (hX.mono hB)) ((HY.out.sl).below (hX.mono hB)) HX.out.b8 HY.out.b8 (Nat.le_trans hB hX.size) (Nat.le_trans hB hX.size)
  have HR2 : Hid (r = if xa = ya then (if o = 0 then decide (xw < yw) else decide (o < 0)) else decide (xa < ya)) := by
    show _ = _
    rw [HR.out, ho]
    rfl
  obtain ⟨HP0, HQ0, HB0⟩ := two_boxes w rtT #[.int .i64 xa, .slice A xb.length c, .int .i64 xf, .int .i64 xt, .int .i64 xw] #[.int .i64 ya, .slice A' yb.length c', .int .i64 yf, .int .i64 yt, .int .i64 yw]
  have HP := hide HP0
  have HQ := hide HQ0
  have HB1 := hide HB0
  clear HP0 HQ0 HB0 HX HY ho HR
  generalize hxl : xb.length = n at *
  generalize hyl : yb.length = m at *
  clear hxl hyl
  go_enter Try.func37, Try.ntmps37
  go_upto_region 1 with fail
  change Code.wp _ _ _ _ ((w.alloc (.cells #[.int .i64 xa, .slice A n c, .int .i64 xf, .int .i64 xt, .int .i64 xw] rtT)).alloc (.cells #[.int .i64 ya, .slice A' m c', .int .i64 yf, .int .i64 yt, .int .i64 yw] rtT))
  generalize ((w.alloc (.cells #[.int .i64 xa, .slice A n c, .int .i64 xf, .int .i64 xt, .int .i64 xw] rtT)).alloc (.cells #[.int .i64 ya, .slice A' m c', .int .i64 yf, .int .i64 yt, .int .i64 yw] rtT)) = w1 at *
  obtain ⟨pb, hpb⟩ : ∃ pb, pb = w.heap.size := ⟨_, rfl⟩
  obtain ⟨qb, hqb⟩ : ∃ qb, qb = w.heap.size + 1 := ⟨_, rfl⟩
  rw [← hqb] at HQ ⊢
  rw [← hpb] at HP ⊢
  clear hpb hqb
  have hp := HP.out.lt
  have hq := HQ.out.lt
  have z0 : w1.cell? ⟨pb, 0, none⟩ = some (.int .i64 xa) := HP.out.cell 0
  have z1 : w1.cell? ⟨qb, 0, none⟩ = some (.int .i64 ya) := HQ.out.cell 0
  by_cases ha : xa = ya
  · subst ha
    have e1 : (xa != xa) = false := by simp
    go_wp2_with fail
    have p0 := Aft.cell (HP.out.cell 0) HP.out.lt
    have p1 := Aft.cell (HP.out.cell 1) HP.out.lt
    have p2 := Aft.cell (HP.out.cell 2) HP.out.lt
    have p3 := Aft.cell (HP.out.cell 3) HP.out.lt
    have p4 := Aft.cell (HP.out.cell 4) HP.out.lt
    have q0 := Aft.cell (HQ.out.cell 0) HQ.out.lt
    have q1 := Aft.cell (HQ.out.cell 1) HQ.out.lt
    have q2 := Aft.cell (HQ.out.cell 2) HQ.out.lt
    have q3 := Aft.cell (HQ.out.cell 3) HQ.out.lt
    have q4 := Aft.cell (HQ.out.cell 4) HQ.out.lt
    simp at p0 p1 p2 p3 p4 q0 q1 q2 q3 q4
    have HOD1 : Hid (∀ p : Aft w1, Below w.heap.size w p.w') := fun p => HB1.out.trans (p.h.mono HB1.out.size)
    refine wp_region_aft (by kernel_rfl) (by kernel_rfl) ?_
    repeat (go_big_quiet_step (first
      | (go_at_call 31; with_reducible exact calls_aft (rcell_any _ _ _ _ _ _ _ _))
      | (go_at_call 38; with_reducible exact calls_aft (HOD.out _ (HOD1.out _)))))
    refine wpQuiet_nil ?_
    intro w9 hb9
    have HB9 := hide (HB1.out.trans (hb9.mono HB1.out.size))
    have HP9 := hide (HP.out.below hb9 hp)
    have HQ9 := hide (HQ.out.below hb9 hq)
    clear hb9 p0 p1 p2 p3 p4 q0 q1 q2 q3 q4 z0 z1 hp hq
    have hp := HP9.out.lt
    have hq := HQ9.out.lt
    have z0 : w9.cell? ⟨pb, 4, none⟩ = some (.int .i64 xw) := HP9.out.cell 4
    have z1 : w9.cell? ⟨qb, 4, none⟩ = some (.int .i64 yw) := HQ9.out.cell 4
    by_cases h0 : o = 0
    · have HG : Hid (r = decide (xw < yw)) := by show _ = _; rw [HR2.out, if_pos trivial, if_pos h0]
      have e2 : (o != 0) = false := by simp [h0]
      clear h0
      go_wp2_with fail
      go_ret
      rw [HG.out]
      exact ⟨rfl, HB9.out⟩
    · have HG : Hid (r = decide (o < 0)) := by show _ = _; rw [HR2.out, if_pos trivial, if_neg h0]
      have e2 : (o != 0) = true := by simp [h0]
      clear h0
      go_wp2_with fail
      go_ret
      rw [HG.out]
      exact ⟨rfl, HB9.out⟩
  · have e1 : (xa != ya) = true := by simp [ha]
    have HG : Hid (r = decide (xa < ya)) := by show _ = _; rw [HR2.out, if_neg ha]
    go_wp2_with fail
    go_ret
    rw [HG.out]
    exact ⟨rfl, HB1.out⟩

set_option maxHeartbeats 4000000 in
theorem rright_any (x : TV) (B : Nat) (w : World) (hx : KeyIn w B x) :
    Calls Try.prog 11 #[.agg x.cells.toArray] w fun e w' => e = .returned (.bool (decide x.right)) ∧ Below w.heap.size w w' := by
  obtain ⟨A, c, hkx, hc⟩ := hx.sl.form
  have hmx := hx.sl.max
  obtain ⟨xa, xk, xb, xf, xt, xw⟩ := x
  simp only at hkx hc hmx
  subst hkx
  clear hx
  obtain ⟨n, hn⟩ : ∃ n, n = xb.length := ⟨_, rfl⟩
  obtain ⟨r, hr⟩ : ∃ r, r = decide (TV.right ⟨xa, .slice A xb.length c, xb, xf, xt, xw⟩) := ⟨_, rfl⟩
  rw [← hr]
  have HR : Hid (r = decide (((0 ≤ xa ∧ xa ≤ 4194304) ∧ (0 ≤ xw ∧ xw ≤ 9) ∧ (Win.mk xf xt).good ∧ n ≤ 1048576))) := by show _ = _; rw [hr, hn]; rfl
  unfold TV.cells
  simp only
  rw [← hn] at hc hmx ⊢
  clear hr hn
  have HB : Hid (Below w.heap.size w (w.alloc (.cells #[.int .i64 xa, .slice A n c, .int .i64 xf, .int .i64 xt, .int .i64 xw] rtT))) := (Below.refl _ _).alloc (Nat.le_refl _) _
  by_cases h1 : 0 ≤ xa
  · by_cases h2 : xa ≤ 4194304
    · by_cases h3 : 0 ≤ xw
      · by_cases h4 : xw ≤ 9
        · have HG : Hid (r = decide (n ≤ 1048576 ∧ (Win.mk xf xt).good)) := by
            show _ = _
            rw [HR.out]
            refine decide_eq_decide.2 ⟨fun h => ⟨h.2.2.2, h.2.2.1⟩, fun h => ⟨⟨h1, h2⟩, ⟨h3, h4⟩, h.2, h.1⟩⟩
          go_enter Try.func11, Try.ntmps11
          go_wp2_with fail
          refine (rcell_any _ _ _ _ _ _ _ _).mono ?_
          rintro e w2 ⟨rfl, hb2⟩
          have HB2 := hide (HB.out.trans (hb2.mono HB.out.size))
          clear hb2
          go_wp2_with fail
          refine (rkey_any _ _ _ _ _ _ _ _ _ _ _ _ _ _ _ hmx).mono ?_
          rw [← HG.out]
          rintro e w3 ⟨rfl, hb3⟩
          have HB3 := hide (HB2.out.trans (hb3.mono HB2.out.size))
          clear hb3
          go_wp2_with fail
          go_ret
          exact ⟨rfl, HB3.out⟩
        · have HF : Hid (r = false) := by show _ = _; rw [HR.out]; simp [h4]
          go_enter Try.func11, Try.ntmps11
          go_wp2_with fail
          go_ret
          rw [HF.out]
          exact ⟨rfl, HB.out⟩
      · have HF : Hid (r = false) := by show _ = _; rw [HR.out]; simp [h3]
        go_enter Try.func11, Try.ntmps11
        go_wp2_with fail
        go_ret
        rw [HF.out]
        exact ⟨rfl, HB.out⟩
    · have HF : Hid (r = false) := by show _ = _; rw [HR.out]; simp [h2]
      go_enter Try.func11, Try.ntmps11
      go_wp2_with fail
      go_ret
      rw [HF.out]
      exact ⟨rfl, HB.out⟩
  · have HF : Hid (r = false) := by show _ = _; rw [HR.out]; simp [h1]
    go_enter Try.func11, Try.ntmps11
    go_wp2_with fail
    go_ret
    rw [HF.out]
    exact ⟨rfl, HB.out⟩

end Go.Proofs.Ytogelnljkdcajaa
