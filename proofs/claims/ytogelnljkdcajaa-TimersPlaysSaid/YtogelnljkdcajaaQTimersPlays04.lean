/- The tree of timers: Push, Pop. / Heaps over lists: the plain law. / container/heap: up. -/
import Derived.Test.YtogelnljkdcajaaQTimersPlays03
import Derived.BigRegion
import Derived.RegionTactic

namespace Go.Proofs.Ytogelnljkdcajaa
open Go.RowKit Go.Sort
set_option linter.unusedVariables false
set_option linter.unusedSimpArgs false

theorem tms_ok (L : List TV) (h : ∀ x ∈ L, x.kv.oneCell' = true) : ∀ u ∈ tms L, u.oneCell' = true := by
  intro u hu
  simp only [tms, List.mem_flatMap] at hu
  obtain ⟨x, hx, hu⟩ := hu
  simp only [TV.cells, List.mem_cons, List.not_mem_nil, or_false] at hu
  rcases hu with rfl | rfl | rfl | rfl | rfl
  · rfl
  · exact h x hx
  · rfl
  · rfl
  · rfl

theorem tassert (v : Value) (W : World) : (Instr.typeAssert (.iface tmT v) 20 tmT false).run Try.prog W = .ok v W := by
  simp [Instr.typeAssert, run_underlying Try.underlying37, go_sem, Result.andThen]

/-- a timer's key -/
def KeyO (w : World) (base : Nat) (x : TV) : Prop := Own w base bT 1 x.kv x.kb.length (bys x.kb) ∧ Bytes8 x.kb ∧ x.kb.length ≤ 1048576

set_option maxHeartbeats 8000000 in
theorem tpush_any (w : World) (base tb mb : Nat) (lv : Value) (L : List TV) (M : List (Nm × Int)) (x : TV) (h : TreeS w base tb mb lv L M) (hx : KeyO w base x) (hL : L.length ≤ 1000000) (hbase : base ≤ w.heap.size) :
    Calls Try.prog 94 #[.pointer (some ⟨tb, 0, none⟩), .iface tmT (.agg x.cells.toArray)] w fun e w' => e = .returned (.tuple #[]) ∧
      ∃ lv', TreeS w' base tb mb lv' (L ++ [x]) (putM M x.nm L.length) ∧ Fr (fun j => j = tb ∨ j = mb ∨ lv.ownBlock = some j) w w' ∧ (∀ g, lv'.ownBlock = some g → lv.ownBlock = some g ∨ w.heap.size ≤ g) := by
  obtain ⟨A, c, rfl, hc⟩ := h.own.sl.form
  obtain ⟨xA, xc, hxv, hxc⟩ := hx.1.sl.form
  obtain ⟨xa, xk, xb, xf, xt, xw⟩ := x
  simp only at hxv hxc
  subst hxv
  obtain ⟨n, hn⟩ : ∃ n, n = L.length := ⟨_, rfl⟩
  have HT := hide h
  have HX := hide hx
  have t0 : w.cell? ⟨tb, 0, none⟩ = some (.slice A L.length c) := h.blk.cell 0
  have z0 := h.blk.frozen 0
  have htl := h.blk.lt
  have HO := hide h.own
  have HB := hide h.blk
  have HNE : Hid (¬ (Value.slice A L.length c).ownBlock = some tb) := h.own.ne h.blk (by decide)
  rw [← hn] at t0 HO HB HNE hL ⊢
  have HN := hide hn
  unfold TV.cells
  simp only
  have HSL : Hid (∀ W : World, Sl (W.alloc (.cells #[.int .i64 xa, .slice xA xb.length xc, .int .i64 xf, .int .i64 xt, .int .i64 xw] tmT)) (W.heap.size + 1) (.slice (some ⟨W.heap.size, 0, none⟩) 1 1) 5 1 (tms [⟨xa, .slice xA xb.length xc, xb, xf, xt, xw⟩])) := fun W =>
    Sl.of_own (Own.new (n := 1) (sz := 5) (e := tmT) (base := 0) W #[.int .i64 xa, .slice xA xb.length xc, .int .i64 xf, .int .i64 xt, .int .i64 xw] (by omega) (by omega) rfl) |>.mono (by simp)
  clear h hx hn
  have ta := tassert (.agg #[.int .i64 xa, .slice xA xb.length xc, .int .i64 xf, .int .i64 xt, .int .i64 xw]) w.drew
  go_enter Try.func94, Try.ntmps94
  go_wp2_with fail
  go_region_law (
    refine step_app rfl tyT (.tmp 8) (.tmp 11) rfl base (n := n) (m := 1) (B := w.heap.size + 1) (xs := tms L) (news := tms [⟨xa, .slice xA xb.length xc, xb, xf, xt, xw⟩]) rfl rfl (by exact ((HO.out.alloc _).drew)) (by exact HSL.out w) (tms_ok _ (by intro u hu; simp only [List.mem_singleton] at hu; subst hu; rfl)) (by omega) (by omega) (by simp; omega) ?_
    intro v5 w5 ha5
    obtain ⟨A5, c5, rfl, hc5⟩ := ha5.own.sl.form
    have B5 : Blk w5 tb treeT #[.slice A n c, .map (some mb)] := ha5.fr.blk (HB.out.alloc _) HNE.out
    have k4 : w5.cell? ⟨tb, 0, none⟩ = some (.slice A n c) := B5.cell 0
    have q4 := B5.frozen 0
    have klt := B5.lt)
  all_goals
    have hf5 : Fr (fun j => j = tb ∨ j = mb ∨ (Value.slice A n c).ownBlock = some j) w w5 := ((Fr.refl _ w).alloc _).drew.trans ha5.fr (fun _ _ h9 => .inr (.inr h9))
    have ho5 : Own w5 base tmT 5 (.slice A5 (n + 1) c5) (L ++ [(⟨xa, .slice xA xb.length xc, xb, xf, xt, xw⟩ : TV)]).length (tms (L ++ [⟨xa, .slice xA xb.length xc, xb, xf, xt, xw⟩])) := by
      rw [tms_app, List.length_append, ← HN.out]
      exact ha5.own
    have hR6 : TreeS (w5.setCell ⟨tb, 0, none⟩ (.slice A5 (n + 1) c5)) base tb mb (.slice A5 (n + 1) c5) (L ++ [⟨xa, .slice xA xb.length xc, xb, xf, xt, xw⟩]) M := by
      have hS : ∀ j, (Value.slice A n c).ownBlock = some j → ∃ cs, Blk w j tmT cs := HO.out.typed
      have hf0 : Fr (fun j => (Value.slice A n c).ownBlock = some j) w w5 := ((Fr.refl _ w).alloc _).drew.trans ha5.fr (fun _ _ h9 => h9)
      have hf6 : Fr (fun j => j = tb ∨ (Value.slice A n c).ownBlock = some j) w (w5.setCell ⟨tb, 0, none⟩ (.slice A5 (n + 1) c5)) := (hf0.mono (fun _ _ h9 => .inr h9)).put (.inl (.inl rfl)) _
      refine ⟨by simpa using B5.put 0 (.slice A5 (n + 1) c5), ho5.put (ho5.ne B5 (by decide)) _, HT.out.map.fr hf6 ?_, fun y hy => ?_, HT.out.bt, HT.out.bm⟩
      · rintro (h9 | h9)
        · exact HT.out.map.ne_blk HB.out h9
        · exact HT.out.map.ne_own HO.out h9
      · have hk : KeyO w base y := by
          rcases List.mem_append.1 hy with h9 | h9
          · exact HT.out.keys y h9
          · simp only [List.mem_singleton] at h9
            subst h9
            exact HX.out
        refine ⟨hk.1.fr hf6 ?_, hk.2⟩
        intro g hg h9
        rcases h9 with h9 | h9
        · subst h9
          exact hk.1.ne HB.out (by decide) hg
        · obtain ⟨cs, hcs⟩ := hS g h9
          exact hk.1.ne hcs (by decide) hg
    have HF6 : Hid (Fr (fun j => j = tb ∨ j = mb ∨ (Value.slice A n c).ownBlock = some j) w (w5.setCell ⟨tb, 0, none⟩ (.slice A5 (n + 1) c5))) := hf5.put (.inl (.inl rfl)) _
    have HR6 := hide hR6
    have HAT : Hid (∀ g, (Value.slice A5 (n + 1) c5).ownBlock = some g → (Value.slice A n c).ownBlock = some g ∨ w.heap.size ≤ g) := by
      intro g hg
      rcases ha5.at_ with h9 | h9
      · exact .inl (h9.symm.trans hg)
      · have h8 := h9.symm.trans hg
        injection h8 with h8
        refine .inr ?_
        rw [← h8]
        simp
    have HP : Hid ((hr : n < (L ++ [(⟨xa, .slice xA xb.length xc, xb, xf, xt, xw⟩ : TV)]).length) → ((L ++ [(⟨xa, .slice xA xb.length xc, xb, xf, xt, xw⟩ : TV)])[n]).nm = TV.nm ⟨xa, .slice xA xb.length xc, xb, xf, xt, xw⟩) := by
      intro hr
      have := HN.out
      subst this
      rw [List.getElem_concat_length rfl]
    have HPL : Hid (n < (L ++ [(⟨xa, .slice xA xb.length xc, xb, xf, xt, xw⟩ : TV)]).length) := by
      show _ < _
      rw [List.length_append, ← HN.out]
      simp
    obtain ⟨n1, hn1⟩ : ∃ n1, n1 = n + 1 := ⟨_, rfl⟩
    have he1 : (n1 : Int) - 1 = (n : Int) := by omega
    rw [← hn1] at HR6 HF6 HAT ⊢
    generalize w5.setCell ⟨tb, 0, none⟩ (.slice A5 n1 c5) = w6 at *
    clear hf5 ho5 hR6 ha5 B5 k4 q4 klt t0 z0 ta HSL hn1
    have t0 : w6.cell? ⟨tb, 0, none⟩ = some (.slice A5 n1 c5) := HR6.out.blk.cell 0
    have hr6 := HR6.out.blk.lt
    go_wp2_with fail
    refine (tnote_any w6 base tb mb _ _ M n HR6.out HPL.out).mono ?_
    rintro e w7 ⟨rfl, ht7, hf7⟩
    rw [HP.out HPL.out] at ht7
    have HT7 := hide ht7
    have HF7 := hide hf7
    clear ht7 hf7
    go_wp2_with fail
    go_end0
    exact ⟨rfl, _, HT7.out, HF6.out.trans HF7.out (fun j _ h => .inr (.inl h)), HAT.out⟩

set_option maxHeartbeats 8000000 in
theorem tpop_any (w : World) (base tb mb : Nat) (lv : Value) (L : List TV) (M : List (Nm × Int)) (x : TV) (h : TreeS w base tb mb lv (L ++ [x]) M) (hL : L.length ≤ 1000000) :
    Calls Try.prog 93 #[.pointer (some ⟨tb, 0, none⟩)] w fun e w' => e = .returned (.iface tmT (.agg x.cells.toArray)) ∧
      ∃ lv', TreeS w' base tb mb lv' L (delM M x.nm) ∧ Fr (fun j => j = tb ∨ j = mb ∨ lv.ownBlock = some j) w w' ∧ (∀ g, lv'.ownBlock = some g → lv.ownBlock = some g ∨ w.heap.size ≤ g) := by
  obtain ⟨A, c, rfl, hc⟩ := h.own.sl.form
  have hsl := h.own.sl
  obtain ⟨ad, rfl, hab, a0, a1, a2, a3, a4⟩ := tm_at hsl (k := L.length) (by simp) rfl
  have hx : KeyO w base x := h.keys x (by simp)
  have HT := hide h
  obtain ⟨N, hN⟩ : ∃ N, N = (L ++ [x]).length := ⟨_, rfl⟩
  obtain ⟨n, hn⟩ : ∃ n, n = L.length := ⟨_, rfl⟩
  have hNn : N = n + 1 := by rw [hN, hn]; simp
  have hnN : (N : Int) - 1 = (n : Int) := by omega
  have hn2 : (n : Int) < (N : Int) := by omega
  have hn0 : (0 : Int) ≤ (n : Int) := by omega
  rw [← hN] at hc
  have hnc : n ≤ c := by omega
  rw [List.getElem_concat_length rfl] at a0 a1 a2 a3 a4
  have t0 : w.cell? ⟨tb, 0, none⟩ = some (.slice (some ad) (L ++ [x]).length c) := h.blk.cell 0
  have t1 : w.cell? ⟨tb, 1, none⟩ = some (.map (some mb)) := h.blk.cell 1
  have z0 := h.blk.frozen 0
  have htl := h.blk.lt
  have HO := hide h.own
  have HB := hide h.blk
  have HNE : Hid (¬ (Value.slice (some ad) (L ++ [x]).length c).ownBlock = some tb) := h.own.ne h.blk (by decide)
  obtain ⟨xA, xc, hxv, hxc⟩ := hx.1.sl.form
  obtain ⟨xa, xk, xb, xf, xt, xw⟩ := x
  simp only at hxv hxc a0 a1 a2 a3 a4
  subst hxv
  have HX := hide hx
  rw [← hN] at t0 HO HB HNE ⊢
  rw [← hn] at a0 a1 a2 a3 a4 hab hL
  have HN := hide hn
  unfold TV.cells
  simp only
  clear h hx hn hsl hN hNn
  go_enter Try.func93, Try.ntmps93
  go_wp2_with fail
  have hTn : tms (L ++ [(⟨xa, .slice xA xb.length xc, xb, xf, xt, xw⟩ : TV)]) = tms L ++ tms [⟨xa, .slice xA xb.length xc, xb, xf, xt, xw⟩] := tms_app _ _
  have ho2 : Own w base tmT 5 (.slice (some ad) n c) n (tms L) := by
    have h9 := HO.out.cut (k := n) (d := c) (by omega) hnc (Nat.le_refl _)
    rw [hTn, List.take_left' (by rw [tms_len, ← HN.out])] at h9
    exact h9
  have hf2 : Fr (fun j => j = tb) w ((w.setCell ⟨tb, 0, none⟩ (.slice (some ad) n c)).alloc (.cells #[.int .i64 xa, .slice xA xb.length xc, .int .i64 xf, .int .i64 xt, .int .i64 xw] tmT)) := ((Fr.refl (fun j => j = tb) w).put (p := ⟨tb, 0, none⟩) (.inl rfl) _).alloc _
  have hR : TreeS ((w.setCell ⟨tb, 0, none⟩ (.slice (some ad) n c)).alloc (.cells #[.int .i64 xa, .slice xA xb.length xc, .int .i64 xf, .int .i64 xt, .int .i64 xw] tmT)) base tb mb (.slice (some ad) n c) L M := by
    have hb9 := HB.out.put 0 (.slice (some ad) n c)
    refine ⟨?_, ?_, HT.out.map.fr hf2 (HT.out.map.ne_blk HB.out), fun y hy => ?_, HT.out.bt, HT.out.bm⟩
    · have h9 := hb9.alloc (.cells #[.int .i64 xa, .slice xA xb.length xc, .int .i64 xf, .int .i64 xt, .int .i64 xw] tmT)
      simpa using h9
    · rw [← HN.out]
      exact (ho2.put (ho2.ne HB.out (by decide)) _).alloc _
    · have hk : KeyO w base y := HT.out.keys y (List.mem_append.2 (.inl hy))
      refine ⟨hk.1.fr hf2 ?_, hk.2⟩
      intro g hg h9
      subst h9
      exact hk.1.ne HB.out (by decide) hg
  have hP : Blk ((w.setCell ⟨tb, 0, none⟩ (.slice (some ad) n c)).alloc (.cells #[.int .i64 xa, .slice xA xb.length xc, .int .i64 xf, .int .i64 xt, .int .i64 xw] tmT)) w.heap.size tmT #[.int .i64 xa, .slice xA xb.length xc, .int .i64 xf, .int .i64 xt, .int .i64 xw] := by
    have h9 := Blk.new (w.setCell ⟨tb, 0, none⟩ (.slice (some ad) n c)) tmT #[.int .i64 xa, .slice xA xb.length xc, .int .i64 xf, .int .i64 xt, .int .i64 xw]
    rw [World.size_setCell] at h9
    exact h9
  have hX : KeyO ((w.setCell ⟨tb, 0, none⟩ (.slice (some ad) n c)).alloc (.cells #[.int .i64 xa, .slice xA xb.length xc, .int .i64 xf, .int .i64 xt, .int .i64 xw] tmT)) base ⟨xa, .slice xA xb.length xc, xb, xf, xt, xw⟩ :=
    ⟨HX.out.1.fr hf2 (fun g hg h9 => by subst h9; exact HX.out.1.ne HB.out (by decide) hg), HX.out.2⟩
  have HF2 : Hid (Fr (fun j => j = tb ∨ j = mb ∨ (Value.slice (some ad) N c).ownBlock = some j) w ((w.setCell ⟨tb, 0, none⟩ (.slice (some ad) n c)).alloc (.cells #[.int .i64 xa, .slice xA xb.length xc, .int .i64 xf, .int .i64 xt, .int .i64 xw] tmT))) := hf2.mono (fun j _ h9 => .inl h9)
  have HR := hide hR
  have HP := hide hP
  have HK := hide hX
  clear ho2 hf2 hR hTn hP hX a0 a1 a2 a3 a4 t0 t1 z0
  obtain ⟨pb, hpb⟩ : ∃ pb, pb = w.heap.size := ⟨_, rfl⟩
  rw [← hpb] at HP ⊢
  clear hpb
  change Code.wp _ _ _ _ ((w.setCell ⟨tb, 0, none⟩ (.slice (some ad) n c)).alloc (.cells #[.int .i64 xa, .slice xA xb.length xc, .int .i64 xf, .int .i64 xt, .int .i64 xw] tmT))
  generalize ((w.setCell ⟨tb, 0, none⟩ (.slice (some ad) n c)).alloc (.cells #[.int .i64 xa, .slice xA xb.length xc, .int .i64 xf, .int .i64 xt, .int .i64 xw] tmT)) = w2 at *
  have htl2 := HR.out.blk.lt
  have hpl := HP.out.lt
  have HMNE : Hid (mb ≠ tb ∧ mb ≠ pb) := ⟨HR.out.map.ne_blk HR.out.blk, HR.out.map.ne_blk HP.out⟩
  have HNM : Hid (∀ X : World, Below w2.heap.size w2 X → Calls Try.prog 32 #[.agg #[.slice xA xb.length xc, .int .i64 xf, .int .i64 xt], .int .i64 xw] X fun e w' => e = .returned (.agg #[.string (strOfNums xb), .int .i64 xf, .int .i64 xt, .int .i64 xw]) ∧ Below X.heap.size X w') := fun X hX =>
    nameOf_any _ xb xb.length w2.heap.size xf xt xw X (HK.out.1.sl.below hX) rfl hX.size
  have HUP : Hid (∀ X : World, Below w2.heap.size w2 X → ∃ w', (Builtin.delete_ #[placeT, nmT] 0 #[.map (some mb), .agg #[.string (strOfNums xb), .int .i64 xf, .int .i64 xt, .int .i64 xw]]).run Try.prog X = .ok (.tuple #[]) w' ∧ TreeS w' base tb mb (.slice (some ad) n c) L (delM M (TV.nm ⟨xa, .slice xA xb.length xc, xb, xf, xt, xw⟩)) ∧ Fr (fun k => k = mb) w2 w') := by
    intro X hX
    have hTX := HR.out.below hX
    obtain ⟨w', hr, hm, hf, _⟩ := hTX.map.del nmW placeU (TV.nm ⟨xa, .slice xA xb.length xc, xb, xf, xt, xw⟩)
    exact ⟨w', hr, hTX.remap hf hm, (Fr.of_below hX : Fr (fun k => k = mb) w2 X).trans hf (fun k _ h => h)⟩
  have HCS : Hid (∀ X : World, Fr (fun k => k = mb) w2 X → X.cell? ⟨tb, 1, none⟩ = some (.map (some mb)) ∧ X.cell? ⟨pb, 0, none⟩ = some (.int .i64 xa) ∧ X.cell? ⟨pb, 1, none⟩ = some (.slice xA xb.length xc) ∧ X.cell? ⟨pb, 2, none⟩ = some (.int .i64 xf) ∧ X.cell? ⟨pb, 3, none⟩ = some (.int .i64 xt) ∧ X.cell? ⟨pb, 4, none⟩ = some (.int .i64 xw)) := by
    intro X hX
    have h1 := HMNE.out.1
    have h2 := HMNE.out.2
    have k1 := hX.blk HR.out.blk (fun e => h1 e.symm)
    have k2 := hX.blk HP.out (fun e => h2 e.symm)
    exact ⟨k1.cell 1, k2.cell 0, k2.cell 1, k2.cell 2, k2.cell 3, k2.cell 4⟩
  obtain ⟨t1, p0, p1, p2, p3, p4⟩ := HCS.out w2 (Fr.refl _ w2)
  go_region_held3 (fun w' : World => w'.cell? ⟨tb, 1, none⟩ = some (.map (some mb)) ∧ w'.cell? ⟨pb, 0, none⟩ = some (.int .i64 xa) ∧ w'.cell? ⟨pb, 1, none⟩ = some (.slice xA xb.length xc) ∧ w'.cell? ⟨pb, 2, none⟩ = some (.int .i64 xf) ∧ w'.cell? ⟨pb, 3, none⟩ = some (.int .i64 xt) ∧ w'.cell? ⟨pb, 4, none⟩ = some (.int .i64 xw)) (first | exact HCS.out _ ((Fr.refl _ w2).drewN 1) | exact HCS.out _ hk7 | exact HCS.out _ hf8) (first
    | (go_at_call 32; refine (HNM.out _ ((Below.refl _ _).drewN 1)).mono ?_; rintro e w7 ⟨rfl, hb7⟩; have hk6 : Below w2.heap.size w2 w7 := ((Below.refl w2.heap.size w2).drewN 1).trans hb7; have hk7 : Fr (fun k => k = mb) w2 w7 := Fr.of_below hk6; obtain ⟨w8, hrun, ht8, hf8⟩ := HUP.out w7 hk6))
  all_goals
    clear t1 p0 p1 p2 p3 p4 hrun
    obtain ⟨t1, p0, p1, p2, p3, p4⟩ := HCS.out w8 hf8
    have hz8 := hf8.size
    have HT8 := hide ht8
    have HF8 := hide hf8
    clear ht8 hf8 hb7 hk6 hk7
    go_wp2_with fail
    go_ret
    exact ⟨rfl, _, HT8.out, HF2.out.trans HF8.out (fun j _ h => .inr (.inl h)), fun g hg => .inl hg⟩

end Go.Proofs.Ytogelnljkdcajaa

namespace Go.Proofs.Ytogelnljkdcajaa
open Go.RowKit Go.Sort
set_option linter.unusedVariables false
set_option linter.unusedSimpArgs false

/-! ## the order -/
structure Cp {α : Type} (c : α → α → Int) : Prop where
  anti : ∀ x y, c y x = - c x y
  trans : ∀ x y z, c x y ≤ 0 → c y z ≤ 0 → c x z ≤ 0
theorem Cp.lex {α : Type} {c d : α → α → Int} (h : Cp c) (k : Cp d) : Cp (fun x y => orI (c x y) (d x y)) := by
  constructor
  · intro x y
    have h1 := h.anti x y
    have h2 := k.anti x y
    simp only [orI]
    by_cases hc : c x y = 0
    · rw [if_pos hc, if_pos (by omega)]; exact h2
    · rw [if_neg hc, if_neg (by omega)]; exact h1
  · intro x y z h1 h2
    simp only [orI] at h1 h2 ⊢
    have a1 : c x y ≤ 0 := by split at h1 <;> omega
    have a2 : c y z ≤ 0 := by split at h2 <;> omega
    have a3 := h.trans x y z a1 a2
    by_cases hc : c x z = 0
    · have b1 := h.anti x z
      have b2 := h.trans y z x a2 (by omega)
      have b3 := h.anti x y
      have b4 := h.trans z x y (by omega) a1
      have b5 := h.anti y z
      rw [if_pos (by omega)] at h1 h2
      rw [if_pos hc]
      exact k.trans x y z h1 h2
    · rw [if_neg hc]; exact a3
theorem Cp.of {α β : Type} {c : α → α → Int} (h : Cp c) (f : β → α) : Cp (fun x y => c (f x) (f y)) := ⟨fun x y => h.anti _ _, fun x y z => h.trans _ _ _⟩
theorem cp_I : Cp cmpI := by
  constructor
  · intro x y
    unfold cmpI
    split <;> split <;> first | omega | (split <;> omega)
  · intro x y z h1 h2
    unfold cmpI at *
    split at h1
    · split at h2
      · rw [if_pos (by omega)]; omega
      · split at h2
        · omega
        · rw [if_pos (by omega)]; omega
    · split at h1
      · omega
      · have : x = y := by omega
        subst this
        exact h2
theorem cp_B : Cp cmpB := by
  refine ⟨cmpB_anti, fun x y z h1 h2 => ?_⟩
  by_cases h3 : cmpB x y = 0
  · rw [(cmpB_zero x y).1 h3]; exact h2
  · by_cases h4 : cmpB y z = 0
    · rw [← (cmpB_zero y z).1 h4]; exact h1
    · exact Int.le_of_lt (cmpB_trans x y z (by omega) (by omega))
theorem cp_W : Cp ordI := (cp_I.of Win.t).lex (cp_I.of Win.f)
def ordL (x y : TV) : Int := orI (cmpI x.a y.a) (orI (ordI x.win y.win) (orI (cmpB x.kb y.kb) (cmpI x.w y.w)))
theorem cp_L : Cp ordL := (cp_I.of TV.a).lex ((cp_W.of TV.win).lex ((cp_B.of TV.kb).lex (cp_I.of TV.w)))
theorem cmpI_val (x y : Int) : cmpI x y = -1 ∨ cmpI x y = 0 ∨ cmpI x y = 1 := by
  unfold cmpI
  split
  · exact .inl rfl
  · split
    · exact .inr (.inr rfl)
    · exact .inr (.inl rfl)
theorem ordI_val (x y : Win) : ordI x y = -1 ∨ ordI x y = 0 ∨ ordI x y = 1 := by
  unfold ordI orI
  split
  · exact cmpI_val _ _
  · exact cmpI_val _ _
theorem or_z {a b : Int} (h : a = 0) : orI a b = b := by unfold orI; rw [if_pos h]
theorem or_n {a b : Int} (h : a ≠ 0) : orI a b = a := by unfold orI; rw [if_neg h]
theorem ordT_eq (x y : TV) : ordT x y = ordL x y := by
  unfold ordT ordL
  generalize orI (cmpB x.kb y.kb) (cmpI x.w y.w) = r
  have h1 := cmpI_zero x.a y.a
  have h2 := ordI_neg x.win y.win
  have h3 := ordI_neg y.win x.win
  have h4 := cp_W.anti x.win y.win
  have h5 := ordI_val x.win y.win
  by_cases ha : x.a = y.a
  · rw [if_neg (by simpa using ha), or_z (h1.2 ha)]
    by_cases hw : wlt x.win y.win
    · have := h2.2 hw
      rw [if_pos hw, or_n (by omega)]
      omega
    · rw [if_neg hw]
      have h6 : ¬ ordI x.win y.win < 0 := fun h => hw (h2.1 h)
      by_cases hv : wlt y.win x.win
      · have := h3.2 hv
        rw [if_pos hv, or_n (by omega)]
        omega
      · have h7 : ¬ ordI y.win x.win < 0 := fun h => hv (h3.1 h)
        rw [if_neg hv, or_z (by omega)]
  · rw [if_pos (by simpa using ha), or_n (fun h => ha (h1.1 h))]

def leT (x y : TV) : Prop := ordT x y ≤ 0
theorem ltT_le {x y : TV} (h : ltT x y = true) : leT x y := by
  have := of_decide_eq_true h
  exact Int.le_of_lt this
theorem nlt_le {x y : TV} (h : ltT x y = false) : leT y x := by
  have h1 := of_decide_eq_false h
  have h2 := cp_L.anti y x
  unfold leT
  rw [ordT_eq] at *
  omega
theorem leT_trans {x y z : TV} (h : leT x y) (k : leT y z) : leT x z := by
  unfold leT at *
  rw [ordT_eq] at *
  exact cp_L.trans x y z h k
theorem leT_refl (x : TV) : leT x x := by
  unfold leT
  rw [ordT_eq]
  have := cp_L.anti x x
  omega

/-! ## lists by their places -/
def tz : TV := ⟨0, .slice none 0 0, [], 0, 0, 0⟩
def gt (L : List TV) (i : Nat) : TV := L.getD i tz
theorem gt_of {L : List TV} {i : Nat} (h : i < L.length) : gt L i = L[i] := by simp [gt, h]
theorem gt_swap (L : List TV) (i k : Nat) (hi : i < L.length) (hk : k < L.length) (j : Nat) : gt (swapL L i k hi hk) j = if j = k then gt L i else if j = i then gt L k else gt L j := by
  unfold swapL gt
  simp only [List.getD_eq_getElem?_getD, List.getElem?_set, List.length_set]
  by_cases h1 : k = j
  · subst h1
    simp [hk, hi]
  · have h1' : ¬ j = k := fun e => h1 e.symm
    rw [if_neg h1, if_neg h1']
    by_cases h2 : i = j
    · subst h2
      simp [hi, hk]
    · have h2' : ¬ j = i := fun e => h2 e.symm
      rw [if_neg h2, if_neg h2']
theorem swap_perm (L : List TV) (i k : Nat) (hi : i < L.length) (hk : k < L.length) : (swapL L i k hi hk).Perm L := List.set_set_perm hi hk

/-! ## heaps -/
def HeapN (f : Nat → TV) (n : Nat) : Prop := ∀ i, 0 < i → i < n → leT (f ((i - 1) / 2)) (f i)
def UpInv (f : Nat → TV) (n j : Nat) : Prop := (∀ i, 0 < i → i < n → i ≠ j → leT (f ((i - 1) / 2)) (f i)) ∧ (∀ i, 0 < i → i < n → (i - 1) / 2 = j → 0 < j → leT (f ((j - 1) / 2)) (f i))
def WInv (f : Nat → TV) (n j : Nat) : Prop := (∀ i, 0 < i → i < n → i ≠ j → (i - 1) / 2 ≠ j → leT (f ((i - 1) / 2)) (f i)) ∧ (∀ i, 0 < i → i < n → (i - 1) / 2 = j → 0 < j → leT (f ((j - 1) / 2)) (f i))
def swF (f : Nat → TV) (i k : Nat) : Nat → TV := fun j => if j = k then f i else if j = i then f k else f j
theorem UpInv.step {f : Nat → TV} {n j p : Nat} (h : UpInv f n j) (hj : 0 < j) (hn : j < n) (hp : p = (j - 1) / 2) (hl : leT (f j) (f p)) : UpInv (swF f p j) n p := by
  have hpj : p ≠ j := by omega
  constructor
  · intro i h0 h1 h2
    unfold swF
    by_cases hij : i = j
    · subst hij
      rw [if_pos rfl, if_neg (by omega), if_pos (by omega)]
      exact hl
    · rw [if_neg hij, if_neg h2]
      by_cases h3 : (i - 1) / 2 = j
      · rw [if_pos h3]
        have := h.2 i h0 h1 h3 hj
        rwa [← hp] at this
      · rw [if_neg h3]
        by_cases h4 : (i - 1) / 2 = p
        · rw [if_pos h4]
          have h5 := h.1 i h0 h1 hij
          rw [h4] at h5
          exact leT_trans hl h5
        · rw [if_neg h4]
          exact h.1 i h0 h1 hij
  · intro i h0 h1 h2 h3
    have hgp : leT (f ((p - 1) / 2)) (f p) := h.1 p h3 (by omega) hpj
    unfold swF
    rw [if_neg (show (p - 1) / 2 ≠ j by omega), if_neg (show (p - 1) / 2 ≠ p by omega)]
    by_cases hij : i = j
    · rw [if_pos hij]; exact hgp
    · rw [if_neg hij]
      rw [if_neg (show i ≠ p by omega)]
      have h5 := h.1 i h0 h1 hij
      rw [h2] at h5
      exact leT_trans hgp h5
theorem UpInv.done {f : Nat → TV} {n j : Nat} (h : UpInv f n j) (hl : 0 < j → leT (f ((j - 1) / 2)) (f j)) : HeapN f n := by
  intro i h0 h1
  by_cases hij : i = j
  · subst hij; exact hl h0
  · exact h.1 i h0 h1 hij
theorem WInv.step {f : Nat → TV} {n j c : Nat} (h : WInv f n j) (hc : c < n) (hcj : (c - 1) / 2 = j) (h0c : 0 < c) (hmin : ∀ i, 0 < i → i < n → (i - 1) / 2 = j → leT (f c) (f i)) (hl : leT (f c) (f j)) :
    WInv (swF f j c) n c ∧ leT (swF f j c ((c - 1) / 2)) (swF f j c c) ∧ (0 < j → leT (swF f j c ((j - 1) / 2)) (swF f j c j)) := by
  have hjc : j ≠ c := by omega
  refine ⟨⟨?_, ?_⟩, ?_, ?_⟩
  · intro i h0 h1 h2 h3
    unfold swF
    rw [if_neg h2, if_neg h3]
    by_cases hij : i = j
    · rw [if_pos hij]
      rw [if_neg (show (i - 1) / 2 ≠ j by omega)]
      have h4 := h.2 c h0c hc hcj (by omega)
      rw [hij]
      exact h4
    · rw [if_neg hij]
      by_cases h4 : (i - 1) / 2 = j
      · rw [if_pos h4]
        exact hmin i h0 h1 h4
      · rw [if_neg h4]
        exact h.1 i h0 h1 hij h4
  · intro i h0 h1 h2 h3
    unfold swF
    rw [if_neg (show (c - 1) / 2 ≠ c by omega), if_pos hcj, if_neg (show i ≠ c by omega), if_neg (show i ≠ j by omega)]
    have h5 := h.1 i h0 h1 (by omega) (by omega)
    rwa [h2] at h5
  · unfold swF
    rw [if_neg (show (c - 1) / 2 ≠ c by omega), if_pos hcj, if_pos rfl]
    exact hl
  · intro h0
    unfold swF
    rw [if_neg (show (j - 1) / 2 ≠ c by omega), if_neg (show (j - 1) / 2 ≠ j by omega), if_neg hjc, if_pos rfl]
    exact h.2 c h0c hc hcj h0
theorem WInv.done {f : Nat → TV} {n j : Nat} (h : WInv f n j) (hl : ∀ i, 0 < i → i < n → (i - 1) / 2 = j → leT (f j) (f i)) : UpInv f n j := by
  refine ⟨fun i h0 h1 h2 => ?_, h.2⟩
  by_cases h3 : (i - 1) / 2 = j
  · rw [h3]; exact hl i h0 h1 h3
  · exact h.1 i h0 h1 h2 h3
theorem UpInv.zero {f : Nat → TV} {n : Nat} (h : UpInv f n 0) : HeapN f n := h.done (fun h => by omega)
theorem HeapN.push {f g : Nat → TV} {n : Nat} (h : HeapN f n) (hg : ∀ i, i < n → g i = f i) : UpInv g (n + 1) n := by
  constructor
  · intro i h0 h1 h2
    rw [hg i (by omega), hg _ (by omega)]
    exact h i h0 (by omega)
  · intro i h0 h1 h2 h3
    omega
theorem HeapN.swap {f g : Nat → TV} {n j : Nat} (h : HeapN f (n + 1)) (hj : j < n) (hg : ∀ i, i < n → i ≠ j → g i = f i) : WInv g n j := by
  constructor
  · intro i h0 h1 h2 h3
    rw [hg i h1 h2, hg _ (by omega) h3]
    exact h i h0 (by omega)
  · intro i h0 h1 h2 h3
    rw [hg i h1 (by omega), hg _ (by omega) (by omega)]
    have h4 := h i h0 (by omega)
    have h5 := h j h3 (by omega)
    rw [h2] at h4
    exact leT_trans h5 h4
theorem HeapN.mono {f g : Nat → TV} {n m : Nat} (h : HeapN f n) (hm : m ≤ n) (hg : ∀ i, i < m → g i = f i) : HeapN g m := by
  intro i h0 h1
  rw [hg i h1, hg _ (by omega)]
  exact h i h0 (by omega)

/-! ## the map of places -/
structure Good (M : List (Nm × Int)) (L : List TV) : Prop where
  nd : (L.map TV.nm).Nodup
  lk : ∀ a v, lk M a = some v ↔ ∃ i, i < L.length ∧ v = (i : Int) ∧ (gt L i).nm = a
theorem nm_inj {L : List TV} (h : (L.map TV.nm).Nodup) {i j : Nat} (hi : i < L.length) (hj : j < L.length) (e : (gt L i).nm = (gt L j).nm) : i = j := by
  rw [gt_of hi, gt_of hj] at e
  have h2 : (L.map TV.nm)[i]'(by simpa using hi) = (L.map TV.nm)[j]'(by simpa using hj) := by simpa using e
  exact (List.getElem_inj h).1 h2
theorem Good.swap {M : List (Nm × Int)} {L : List TV} (h : Good M L) (i k : Nat) (hi : i < L.length) (hk : k < L.length) : Good (putM (putM M L[k].nm i) L[i].nm k) (swapL L i k hi hk) := by
  have hp : ((swapL L i k hi hk).map TV.nm).Perm (L.map TV.nm) := (swap_perm L i k hi hk).map _
  refine ⟨hp.nodup_iff.2 h.nd, fun a v => ?_⟩
  rw [lk_put, lk_put, ← gt_of hi, ← gt_of hk, swapL_len]
  constructor
  · intro h1
    split at h1
    · rename_i ha
      injection h1 with h1
      exact ⟨k, hk, h1.symm, by rw [gt_swap, if_pos rfl, ha]⟩
    · rename_i ha
      split at h1
      · rename_i hb
        injection h1 with h1
        refine ⟨i, hi, h1.symm, ?_⟩
        rw [gt_swap]
        split
        · rename_i hik
          subst hik
          exact hb.symm
        · rw [if_pos rfl, hb]
      · rename_i hb
        obtain ⟨j, hj, hv, hn⟩ := (h.lk a v).1 h1
        refine ⟨j, hj, hv, ?_⟩
        rw [gt_swap, if_neg (fun e => hb (by rw [← hn, e])), if_neg (fun e => ha (by rw [← hn, e]))]
        exact hn
  · rintro ⟨j, hj, hv, hn⟩
    rw [gt_swap] at hn
    by_cases h1 : j = k
    · rw [if_pos h1] at hn
      rw [if_pos hn.symm, hv, h1]
    · rw [if_neg h1] at hn
      by_cases h2 : j = i
      · rw [if_pos h2] at hn
        rw [if_neg (fun e => h1 (by rw [h2]; exact nm_inj h.nd hi hk (by rw [hn, e]))), if_pos hn.symm, hv, h2]
      · rw [if_neg h2] at hn
        rw [if_neg (fun e => h2 (nm_inj h.nd hj hi (by rw [hn, e]))), if_neg (fun e => h1 (nm_inj h.nd hj hk (by rw [hn, e])))]
        exact (h.lk a v).2 ⟨j, hj, hv, hn⟩
theorem gt_app {L : List TV} {x : TV} {i : Nat} (h : i < L.length) : gt (L ++ [x]) i = gt L i := by
  simp [gt, List.getElem?_append_left h]
theorem gt_last (L : List TV) (x : TV) : gt (L ++ [x]) L.length = x := by simp [gt]
theorem Good.push {M : List (Nm × Int)} {L : List TV} (h : Good M L) (x : TV) (hx : x.nm ∉ L.map TV.nm) : Good (putM M x.nm L.length) (L ++ [x]) := by
  refine ⟨?_, fun a v => ?_⟩
  · rw [List.map_append, List.nodup_append]
    refine ⟨h.nd, by simp, ?_⟩
    intro a ha b hb e
    simp only [List.map_cons, List.map_nil, List.mem_singleton] at hb
    rw [e, hb] at ha
    exact hx ha
  · rw [lk_put]
    simp only [List.length_append, List.length_cons, List.length_nil]
    constructor
    · intro h1
      split at h1
      · rename_i ha
        injection h1 with h1
        exact ⟨L.length, by omega, h1.symm, by rw [gt_last, ha]⟩
      · obtain ⟨j, hj, hv, hn⟩ := (h.lk a v).1 h1
        exact ⟨j, by omega, hv, by rw [gt_app hj]; exact hn⟩
    · rintro ⟨j, hj, hv, hn⟩
      by_cases h1 : j = L.length
      · subst h1
        rw [gt_last] at hn
        rw [if_pos hn.symm, hv]
      · have hj2 : j < L.length := by omega
        rw [gt_app hj2] at hn
        rw [if_neg (fun e => hx (by rw [← e, ← hn, gt_of hj2]; exact List.mem_map_of_mem (List.getElem_mem hj2)))]
        exact (h.lk a v).2 ⟨j, hj2, hv, hn⟩
theorem Good.pop {M : List (Nm × Int)} {L : List TV} {x : TV} (h : Good M (L ++ [x])) (hM : (M.map (·.1)).Nodup) : Good (delM M x.nm) L := by
  have hnd := h.nd
  rw [List.map_append, List.nodup_append] at hnd
  refine ⟨hnd.1, fun a v => ?_⟩
  rw [lk_del hM]
  constructor
  · intro h1
    split at h1
    · cases h1
    · rename_i ha
      obtain ⟨j, hj, hv, hn⟩ := (h.lk a v).1 h1
      simp only [List.length_append, List.length_cons, List.length_nil] at hj
      have hjl : j ≠ L.length := by
        rintro rfl
        rw [gt_last] at hn
        exact ha hn.symm
      have hj2 : j < L.length := by omega
      rw [gt_app hj2] at hn
      exact ⟨j, hj2, hv, hn⟩
  · rintro ⟨j, hj, hv, hn⟩
    have hne : a ≠ x.nm := by
      rintro rfl
      have hm : (gt L j).nm ∈ L.map TV.nm := by rw [gt_of hj]; exact List.mem_map_of_mem (List.getElem_mem hj)
      exact hnd.2.2 _ hm x.nm (by simp) hn
    rw [if_neg hne]
    exact (h.lk a v).2 ⟨j, by simp; omega, hv, by rw [gt_app hj]; exact hn⟩

end Go.Proofs.Ytogelnljkdcajaa

namespace Go.Proofs.Ytogelnljkdcajaa
open Go.RowKit Go.Sort
set_option linter.unusedVariables false
set_option linter.unusedSimpArgs false

/-- the tree with its map of places -/
def StT (w : World) (base tb mb : Nat) (lv : Value) (L : List TV) : Prop := ∃ M, TreeS w base tb mb lv L M ∧ Good M L
theorem StT.below {w w' : World} {base tb mb : Nat} {lv : Value} {L : List TV} (h : StT w base tb mb lv L) (hb : Below w.heap.size w w') : StT w' base tb mb lv L := h.elim fun M ⟨h1, h2⟩ => ⟨M, h1.below hb, h2⟩
theorem StT.drewN {w : World} {base tb mb : Nat} {lv : Value} {L : List TV} (h : StT w base tb mb lv L) (q : Nat) : StT (w.drewN q) base tb mb lv L := h.below ((Below.refl _ _).drewN q)
theorem stless {w : World} {base tb mb : Nat} {lv : Value} {L : List TV} (i k : Nat) (h : StT w base tb mb lv L) (hi : i < L.length) (hk : k < L.length) :
    Calls Try.prog 92 #[.pointer (some ⟨tb, 0, none⟩), .int .i64 i, .int .i64 k] w fun e w' => e = .returned (.bool (ltT (gt L i) (gt L k))) ∧ Below w.heap.size w w' := by
  obtain ⟨M, h1, h2⟩ := h
  rw [gt_of hi, gt_of hk]
  exact tless_any w base tb mb lv L M i k h1 hi hk
theorem stswap {w : World} {base tb mb : Nat} {lv : Value} {L : List TV} (i k : Nat) (h : StT w base tb mb lv L) (hi : i < L.length) (hk : k < L.length) :
    Calls Try.prog 95 #[.pointer (some ⟨tb, 0, none⟩), .int .i64 i, .int .i64 k] w fun e w' => e = .returned (.tuple #[]) ∧ ∃ L', StT w' base tb mb lv L' ∧ L'.Perm L ∧ gt L' = swF (gt L) i k ∧ Fr (fun j => j = mb ∨ lv.ownBlock = some j) w w' := by
  obtain ⟨M, h1, h2⟩ := h
  exact (tswap_any w base tb mb lv L M i k h1 hi hk).mono fun e w' ⟨he, ht, hf⟩ => ⟨he, _, ⟨_, ht, h2.swap i k hi hk⟩, swap_perm L i k hi hk, funext fun j => gt_swap L i k hi hk j, hf⟩

/-- what up keeps -/
structure UpI (w wz : World) (base tb mb : Nat) (lv : Value) (L : List TV) (n : Nat) (L1 : List TV) (q : Nat) : Prop where
  st : StT wz base tb mb lv L1
  pm : L1.Perm L
  up : UpInv (gt L1) n q
  hi : ∀ i, n ≤ i → gt L1 i = gt L i
  fr : Fr (fun j => j = mb ∨ lv.ownBlock = some j) w wz

set_option maxRecDepth 100000 in
set_option maxHeartbeats 4000000 in
theorem up_any (w : World) (base tb mb : Nat) (lv : Value) (L : List TV) (n j : Nat) (h : StT w base tb mb lv L) (hn : n ≤ L.length) (hj : j < n) (hN : n ≤ 1000000) (hu : UpInv (gt L) n j) :
    Calls Try.prog 44 #[.iface 65 (.pointer (some ⟨tb, 0, none⟩)), .int .i64 j] w fun e w' => e = .returned (.tuple #[]) ∧ ∃ L', StT w' base tb mb lv L' ∧ L'.Perm L ∧ HeapN (gt L') n ∧ (∀ i, n ≤ i → gt L' i = gt L i) ∧ Fr (fun j => j = mb ∨ lv.ownBlock = some j) w w' := by
  have HI : Hid (UpI w w base tb mb lv L n L j) := ⟨h, List.Perm.refl _, hu, fun _ _ => rfl, Fr.refl _ w⟩
  clear h hu
  go_enter Try.func44, Try.ntmps44
  go_wp2_with fail
  go_loopw [1] (fun i wz => ∃ (L1 : List TV) (q : Nat), i = .int .i64 q ∧ q < n ∧ Hid (UpI w wz base tb mb lv L n L1 q)) (fun i _ => (intOf i).toNat)
  case atStart => exact ⟨L, j, rfl, hj, HI.out⟩
  case round =>
    obtain ⟨L1, q, rfl, hq, HR⟩ := hrel
    have hm : ∀ W : World, (method 249 65 (.pointer (some ⟨tb, 0, none⟩)) "Less").run Try.prog W = .ok (92, .pointer (some ⟨tb, 0, none⟩)) W := fun _ => by kernel_rfl
    by_cases hq0 : q = 0
    · subst hq0
      go_wp2_with fail
      go_end0
      exact ⟨rfl, L1, HR.out.st, HR.out.pm, HR.out.up.zero, HR.out.hi, HR.out.fr⟩
    · obtain ⟨p, hp⟩ : ∃ p, p = (q - 1) / 2 := ⟨_, rfl⟩
      have e1 : ((q - 1 : Nat) : Int) / 2 = (p : Int) := by omega
      have e3 : ((q : Int) - 1) / 2 = (p : Int) := by omega
      have e2 : ((p : Int) == (q : Int)) = false := by simp; omega
      have hpq : p < q := by omega
      have HL1 : Hid (L1.length = L.length) := HR.out.pm.length_eq
      have HUP : Hid (leT (gt L1 q) (gt L1 p) → UpInv (swF (gt L1) p q) n p) := HR.out.up.step (by omega) hq hp
      have HDN : Hid (leT (gt L1 p) (gt L1 q) → HeapN (gt L1) n) := fun h => HR.out.up.done (fun _ => by rw [← hp]; exact h)
      have hq1 : 0 < q := by omega
      clear hp hq0
      have hm2 : ∀ W : World, (method 249 65 (.pointer (some ⟨tb, 0, none⟩)) "Swap").run Try.prog W = .ok (95, .pointer (some ⟨tb, 0, none⟩)) W := fun _ => by kernel_rfl
      go_wp2_with fail
      refine (stless q p HR.out.st (by rw [HL1.out]; omega) (by rw [HL1.out]; omega)).mono ?_
      obtain ⟨b, hb⟩ : ∃ b, b = ltT (gt L1 q) (gt L1 p) := ⟨_, rfl⟩
      rw [← hb]
      have HBB := hide hb
      clear hb
      rintro e w2 ⟨rfl, hb2⟩
      have HB2 := hide hb2
      clear hb2
      cases b
      · go_wp2_with fail
        go_end0
        exact ⟨rfl, L1, HR.out.st.below HB2.out, HR.out.pm, HDN.out (nlt_le HBB.out.symm), HR.out.hi, HR.out.fr.trans (Fr.of_below HB2.out : Fr (fun j => j = mb ∨ lv.ownBlock = some j) wr w2) (fun _ _ h => h)⟩
      · go_wp2_with fail
        refine (stswap p q (HR.out.st.below HB2.out) (by rw [HL1.out]; omega) (by rw [HL1.out]; omega)).mono ?_
        rintro e w3 ⟨rfl, L2, hs3, hp3, hg3, hf3⟩
        have HI3 : Hid (UpI w w3 base tb mb lv L n L2 p) := ⟨hs3, hp3.trans HR.out.pm, by rw [hg3]; exact HUP.out (ltT_le HBB.out.symm), fun i hi => by
          rw [hg3]
          unfold swF
          rw [if_neg (by omega), if_neg (by omega)]
          exact HR.out.hi i hi, (HR.out.fr.trans (Fr.of_below HB2.out : Fr (fun j => j = mb ∨ lv.ownBlock = some j) wr w2) (fun _ _ h => h)).trans hf3 (fun _ _ h => h)⟩
        clear hs3 hp3 hg3 hf3
        go_wp2_with fail
        go_roundw
        · exact ⟨L2, p, rfl, by omega, HI3⟩
        · show (p : Int).toNat < (q : Int).toNat
          omega

end Go.Proofs.Ytogelnljkdcajaa
