/- The tree of timers: Push, Pop. -/
import Derived.Test.YtogelnljkdcajaaTree2
import Derived.BigRegion
import Derived.RegionTactic
namespace Go.Proofs.Ytogelnljkdcajaa
open Go.RowKit Go.Sort
set_option linter.unusedVariables false
set_option linter.unusedSimpArgs false

theorem tms_ok (L : List TV) (h : ∀ x ∈ L, x.kv.oneCell' = true) : ∀ u ∈ tms L, u.oneCell' = true := by
  intro u hu
  simp only [tms, List.mem_flatMap] at hu
  obtain ⟨x, hx, hu⟩ := hu
  simp only [TV.cells, List.mem_cons, List.not_mem_nil, or_false] at hu
  rcases hu with rfl | rfl | rfl | rfl | rfl
  · rfl
  · exact h x hx
  · rfl
  · rfl
  · rfl

theorem tassert (v : Value) (W : World) : (Instr.typeAssert (.iface tmT v) 20 tmT false).run Try.prog W = .ok v W := by
  simp [Instr.typeAssert, run_underlying Try.underlying37, go_sem, Result.andThen]

/-- a timer's key -/
def KeyO (w : World) (base : Nat) (x : TV) : Prop := Own w base bT 1 x.kv x.kb.length (bys x.kb) ∧ Bytes8 x.kb ∧ x.kb.length ≤ 1048576

set_option maxHeartbeats 8000000 in
theorem tpush_any (w : World) (base tb mb : Nat) (lv : Value) (L : List TV) (M : List (Nm × Int)) (x : TV) (h : TreeS w base tb mb lv L M) (hx : KeyO w base x) (hL : L.length ≤ 1000000) (hbase : base ≤ w.heap.size) :
    Calls Try.prog 94 #[.pointer (some ⟨tb, 0, none⟩), .iface tmT (.agg x.cells.toArray)] w fun e w' => e = .returned (.tuple #[]) ∧
      ∃ lv', TreeS w' base tb mb lv' (L ++ [x]) (putM M x.nm L.length) ∧ Fr (fun j => j = tb ∨ j = mb ∨ lv.ownBlock = some j) w w' ∧ (∀ g, lv'.ownBlock = some g → lv.ownBlock = some g ∨ w.heap.size ≤ g) := by
  obtain ⟨A, c, rfl, hc⟩ := h.own.sl.form
  obtain ⟨xA, xc, hxv, hxc⟩ := hx.1.sl.form
  obtain ⟨xa, xk, xb, xf, xt, xw⟩ := x
  simp only at hxv hxc
  subst hxv
  obtain ⟨n, hn⟩ : ∃ n, n = L.length := ⟨_, rfl⟩
  have HT := hide h
  have HX := hide hx
  have t0 : w.cell? ⟨tb, 0, none⟩ = some (.slice A L.length c) := h.blk.cell 0
  have z0 := h.blk.frozen 0
  have htl := h.blk.lt
  have HO := hide h.own
  have HB := hide h.blk
  have HNE : Hid (¬ (Value.slice A L.length c).ownBlock = some tb) := h.own.ne h.blk (by decide)
  rw [← hn] at t0 HO HB HNE hL ⊢
  have HN := hide hn
  unfold TV.cells
  simp only
  have HSL : Hid (∀ W : World, Sl (W.alloc (.cells #[.int .i64 xa, .slice xA xb.length xc, .int .i64 xf, .int .i64 xt, .int .i64 xw] tmT)) (W.heap.size + 1) (.slice (some ⟨W.heap.size, 0, none⟩) 1 1) 5 1 (tms [⟨xa, .slice xA xb.length xc, xb, xf, xt, xw⟩])) := fun W =>
    Sl.of_own (Own.new (n := 1) (sz := 5) (e := tmT) (base := 0) W #[.int .i64 xa, .slice xA xb.length xc, .int .i64 xf, .int .i64 xt, .int .i64 xw] (by omega) (by omega) rfl) |>.mono (by simp)
  clear h hx hn
  have ta := tassert (.agg #[.int .i64 xa, .slice xA xb.length xc, .int .i64 xf, .int .i64 xt, .int .i64 xw]) w.drew
  go_enter Try.func94, Try.ntmps94
  go_wp2_with fail
  go_region_law (
    refine step_app rfl tyT (.tmp 8) (.tmp 11) rfl base (n := n) (m := 1) (B := w.heap.size + 1) (xs := tms L) (news := tms [⟨xa, .slice xA xb.length xc, xb, xf, xt, xw⟩]) rfl rfl (by exact ((HO.out.alloc _).drew)) (by exact HSL.out w) (tms_ok _ (by intro u hu; simp only [List.mem_singleton] at hu; subst hu; rfl)) (by omega) (by omega) (by simp; omega) ?_
    intro v5 w5 ha5
    obtain ⟨A5, c5, rfl, hc5⟩ := ha5.own.sl.form
    have B5 : Blk w5 tb treeT #[.slice A n c, .map (some mb)] := ha5.fr.blk (HB.out.alloc _) HNE.out
    have k4 : w5.cell? ⟨tb, 0, none⟩ = some (.slice A n c) := B5.cell 0
    have q4 := B5.frozen 0
    have klt := B5.lt)
  all_goals
    have hf5 : Fr (fun j => j = tb ∨ j = mb ∨ (Value.slice A n c).ownBlock = some j) w w5 := ((Fr.refl _ w).alloc _).drew.trans ha5.fr (fun _ _ h9 => .inr (.inr h9))
    have ho5 : Own w5 base tmT 5 (.slice A5 (n + 1) c5) (L ++ [(⟨xa, .slice xA xb.length xc, xb, xf, xt, xw⟩ : TV)]).length (tms (L ++ [⟨xa, .slice xA xb.length xc, xb, xf, xt, xw⟩])) := by
      rw [tms_app, List.length_append, ← HN.out]
      exact ha5.own
    have hR6 : TreeS (w5.setCell ⟨tb, 0, none⟩ (.slice A5 (n + 1) c5)) base tb mb (.slice A5 (n + 1) c5) (L ++ [⟨xa, .slice xA xb.length xc, xb, xf, xt, xw⟩]) M := by
      have hS : ∀ j, (Value.slice A n c).ownBlock = some j → ∃ cs, Blk w j tmT cs := HO.out.typed
      have hf0 : Fr (fun j => (Value.slice A n c).ownBlock = some j) w w5 := ((Fr.refl _ w).alloc _).drew.trans ha5.fr (fun _ _ h9 => h9)
      have hf6 : Fr (fun j => j = tb ∨ (Value.slice A n c).ownBlock = some j) w (w5.setCell ⟨tb, 0, none⟩ (.slice A5 (n + 1) c5)) := (hf0.mono (fun _ _ h9 => .inr h9)).put (.inl (.inl rfl)) _
      refine ⟨by simpa using B5.put 0 (.slice A5 (n + 1) c5), ho5.put (ho5.ne B5 (by decide)) _, HT.out.map.fr hf6 ?_, fun y hy => ?_, HT.out.bt, HT.out.bm⟩
      · rintro (h9 | h9)
        · exact HT.out.map.ne_blk HB.out h9
        · exact HT.out.map.ne_own HO.out h9
      · have hk : KeyO w base y := by
          rcases List.mem_append.1 hy with h9 | h9
          · exact HT.out.keys y h9
          · simp only [List.mem_singleton] at h9
            subst h9
            exact HX.out
        refine ⟨hk.1.fr hf6 ?_, hk.2⟩
        intro g hg h9
        rcases h9 with h9 | h9
        · subst h9
          exact hk.1.ne HB.out (by decide) hg
        · obtain ⟨cs, hcs⟩ := hS g h9
          exact hk.1.ne hcs (by decide) hg
    have HF6 : Hid (Fr (fun j => j = tb ∨ j = mb ∨ (Value.slice A n c).ownBlock = some j) w (w5.setCell ⟨tb, 0, none⟩ (.slice A5 (n + 1) c5))) := hf5.put (.inl (.inl rfl)) _
    have HR6 := hide hR6
    have HAT : Hid (∀ g, (Value.slice A5 (n + 1) c5).ownBlock = some g → (Value.slice A n c).ownBlock = some g ∨ w.heap.size ≤ g) := by
      intro g hg
      rcases ha5.at_ with h9 | h9
      · exact .inl (h9.symm.trans hg)
      · have h8 := h9.symm.trans hg
        injection h8 with h8
        refine .inr ?_
        rw [← h8]
        simp
    have HP : Hid ((hr : n < (L ++ [(⟨xa, .slice xA xb.length xc, xb, xf, xt, xw⟩ : TV)]).length) → ((L ++ [(⟨xa, .slice xA xb.length xc, xb, xf, xt, xw⟩ : TV)])[n]).nm = TV.nm ⟨xa, .slice xA xb.length xc, xb, xf, xt, xw⟩) := by
      intro hr
      have := HN.out
      subst this
      rw [List.getElem_concat_length rfl]
    have HPL : Hid (n < (L ++ [(⟨xa, .slice xA xb.length xc, xb, xf, xt, xw⟩ : TV)]).length) := by
      show _ < _
      rw [List.length_append, ← HN.out]
      simp
    obtain ⟨n1, hn1⟩ : ∃ n1, n1 = n + 1 := ⟨_, rfl⟩
    have he1 : (n1 : Int) - 1 = (n : Int) := by omega
    rw [← hn1] at HR6 HF6 HAT ⊢
    generalize w5.setCell ⟨tb, 0, none⟩ (.slice A5 n1 c5) = w6 at *
    clear hf5 ho5 hR6 ha5 B5 k4 q4 klt t0 z0 ta HSL hn1
    have t0 : w6.cell? ⟨tb, 0, none⟩ = some (.slice A5 n1 c5) := HR6.out.blk.cell 0
    have hr6 := HR6.out.blk.lt
    go_wp2_with fail
    refine (tnote_any w6 base tb mb _ _ M n HR6.out HPL.out).mono ?_
    rintro e w7 ⟨rfl, ht7, hf7⟩
    rw [HP.out HPL.out] at ht7
    have HT7 := hide ht7
    have HF7 := hide hf7
    clear ht7 hf7
    go_wp2_with fail
    go_end0
    exact ⟨rfl, _, HT7.out, HF6.out.trans HF7.out (fun j _ h => .inr (.inl h)), HAT.out⟩

set_option maxHeartbeats 8000000 in
theorem tpop_any (w : World) (base tb mb : Nat) (lv : Value) (L : List TV) (M : List (Nm × Int)) (x : TV) (h : TreeS w base tb mb lv (L ++ [x]) M) (hL : L.length ≤ 1000000) :
    Calls Try.prog 93 #[.pointer (some ⟨tb, 0, none⟩)] w fun e w' => e = .returned (.iface tmT (.agg x.cells.toArray)) ∧
      ∃ lv', TreeS w' base tb mb lv' L (delM M x.nm) ∧ Fr (fun j => j = tb ∨ j = mb ∨ lv.ownBlock = some j) w w' ∧ (∀ g, lv'.ownBlock = some g → lv.ownBlock = some g ∨ w.heap.size ≤ g) := by
  obtain ⟨A, c, rfl, hc⟩ := h.own.sl.form
  have hsl := h.own.sl
  obtain ⟨ad, rfl, hab, a0, a1, a2, a3, a4⟩ := tm_at hsl (k := L.length) (by simp) rfl
  have hx : KeyO w base x := h.keys x (by simp)
  have HT := hide h
  obtain ⟨N, hN⟩ : ∃ N, N = (L ++ [x]).length := ⟨_, rfl⟩
  obtain ⟨n, hn⟩ : ∃ n, n = L.length := ⟨_, rfl⟩
  have hNn : N = n + 1 := by rw [hN, hn]; simp
  have hnN : (N : Int) - 1 = (n : Int) := by omega
  have hn2 : (n : Int) < (N : Int) := by omega
  have hn0 : (0 : Int) ≤ (n : Int) := by omega
  rw [← hN] at hc
  have hnc : n ≤ c := by omega
  rw [List.getElem_concat_length rfl] at a0 a1 a2 a3 a4
  have t0 : w.cell? ⟨tb, 0, none⟩ = some (.slice (some ad) (L ++ [x]).length c) := h.blk.cell 0
  have t1 : w.cell? ⟨tb, 1, none⟩ = some (.map (some mb)) := h.blk.cell 1
  have z0 := h.blk.frozen 0
  have htl := h.blk.lt
  have HO := hide h.own
  have HB := hide h.blk
  have HNE : Hid (¬ (Value.slice (some ad) (L ++ [x]).length c).ownBlock = some tb) := h.own.ne h.blk (by decide)
  obtain ⟨xA, xc, hxv, hxc⟩ := hx.1.sl.form
  obtain ⟨xa, xk, xb, xf, xt, xw⟩ := x
  simp only at hxv hxc a0 a1 a2 a3 a4
  subst hxv
  have HX := hide hx
  rw [← hN] at t0 HO HB HNE ⊢
  rw [← hn] at a0 a1 a2 a3 a4 hab hL
  have HN := hide hn
  unfold TV.cells
  simp only
  clear h hx hn hsl hN hNn
  go_enter Try.func93, Try.ntmps93
  go_wp2_with fail
  have hTn : tms (L ++ [(⟨xa, .slice xA xb.length xc, xb, xf, xt, xw⟩ : TV)]) = tms L ++ tms [⟨xa, .slice xA xb.length xc, xb, xf, xt, xw⟩] := tms_app _ _
  have ho2 : Own w base tmT 5 (.slice (some ad) n c) n (tms L) := by
    have h9 := HO.out.cut (k := n) (d := c) (by omega) hnc (Nat.le_refl _)
    rw [hTn, List.take_left' (by rw [tms_len, ← HN.out])] at h9
    exact h9
  have hf2 : Fr (fun j => j = tb) w ((w.setCell ⟨tb, 0, none⟩ (.slice (some ad) n c)).alloc (.cells #[.int .i64 xa, .slice xA xb.length xc, .int .i64 xf, .int .i64 xt, .int .i64 xw] tmT)) := ((Fr.refl (fun j => j = tb) w).put (p := ⟨tb, 0, none⟩) (.inl rfl) _).alloc _
  have hR : TreeS ((w.setCell ⟨tb, 0, none⟩ (.slice (some ad) n c)).alloc (.cells #[.int .i64 xa, .slice xA xb.length xc, .int .i64 xf, .int .i64 xt, .int .i64 xw] tmT)) base tb mb (.slice (some ad) n c) L M := by
    have hb9 := HB.out.put 0 (.slice (some ad) n c)
    refine ⟨?_, ?_, HT.out.map.fr hf2 (HT.out.map.ne_blk HB.out), fun y hy => ?_, HT.out.bt, HT.out.bm⟩
    · have h9 := hb9.alloc (.cells #[.int .i64 xa, .slice xA xb.length xc, .int .i64 xf, .int .i64 xt, .int .i64 xw] tmT)
      simpa using h9
    · rw [← HN.out]
      exact (ho2.put (ho2.ne HB.out (by decide)) _).alloc _
    · have hk : KeyO w base y := HT.out.keys y (List.mem_append.2 (.inl hy))
      refine ⟨hk.1.fr hf2 ?_, hk.2⟩
      intro g hg h9
      subst h9
      exact hk.1.ne HB.out (by decide) hg
  have hP : Blk ((w.setCell ⟨tb, 0, none⟩ (.slice (some ad) n c)).alloc (.cells #[.int .i64 xa, .slice xA xb.length xc, .int .i64 xf, .int .i64 xt, .int .i64 xw] tmT)) w.heap.size tmT #[.int .i64 xa, .slice xA xb.length xc, .int .i64 xf, .int .i64 xt, .int .i64 xw] := by
    have h9 := Blk.new (w.setCell ⟨tb, 0, none⟩ (.slice (some ad) n c)) tmT #[.int .i64 xa, .slice xA xb.length xc, .int .i64 xf, .int .i64 xt, .int .i64 xw]
    rw [World.size_setCell] at h9
    exact h9
  have hX : KeyO ((w.setCell ⟨tb, 0, none⟩ (.slice (some ad) n c)).alloc (.cells #[.int .i64 xa, .slice xA xb.length xc, .int .i64 xf, .int .i64 xt, .int .i64 xw] tmT)) base ⟨xa, .slice xA xb.length xc, xb, xf, xt, xw⟩ :=
    ⟨HX.out.1.fr hf2 (fun g hg h9 => by subst h9; exact HX.out.1.ne HB.out (by decide) hg), HX.out.2⟩
  have HF2 : Hid (Fr (fun j => j = tb ∨ j = mb ∨ (Value.slice (some ad) N c).ownBlock = some j) w ((w.setCell ⟨tb, 0, none⟩ (.slice (some ad) n c)).alloc (.cells #[.int .i64 xa, .slice xA xb.length xc, .int .i64 xf, .int .i64 xt, .int .i64 xw] tmT))) := hf2.mono (fun j _ h9 => .inl h9)
  have HR := hide hR
  have HP := hide hP
  have HK := hide hX
  clear ho2 hf2 hR hTn hP hX a0 a1 a2 a3 a4 t0 t1 z0
  obtain ⟨pb, hpb⟩ : ∃ pb, pb = w.heap.size := ⟨_, rfl⟩
  rw [← hpb] at HP ⊢
  clear hpb
  change Code.wp _ _ _ _ ((w.setCell ⟨tb, 0, none⟩ (.slice (some ad) n c)).alloc (.cells #[.int .i64 xa, .slice xA xb.length xc, .int .i64 xf, .int .i64 xt, .int .i64 xw] tmT))
  generalize ((w.setCell ⟨tb, 0, none⟩ (.slice (some ad) n c)).alloc (.cells #[.int .i64 xa, .slice xA xb.length xc, .int .i64 xf, .int .i64 xt, .int .i64 xw] tmT)) = w2 at *
  have htl2 := HR.out.blk.lt
  have hpl := HP.out.lt
  have HMNE : Hid (mb ≠ tb ∧ mb ≠ pb) := ⟨HR.out.map.ne_blk HR.out.blk, HR.out.map.ne_blk HP.out⟩
  have HNM : Hid (∀ X : World, Below w2.heap.size w2 X → Calls Try.prog 32 #[.agg #[.slice xA xb.length xc, .int .i64 xf, .int .i64 xt], .int .i64 xw] X fun e w' => e = .returned (.agg #[.string (strOfNums xb), .int .i64 xf, .int .i64 xt, .int .i64 xw]) ∧ Below X.heap.size X w') := fun X hX =>
    nameOf_any _ xb xb.length w2.heap.size xf xt xw X (HK.out.1.sl.below hX) rfl hX.size
  have HUP : Hid (∀ X : World, Below w2.heap.size w2 X → ∃ w', (Builtin.delete_ #[placeT, nmT] 0 #[.map (some mb), .agg #[.string (strOfNums xb), .int .i64 xf, .int .i64 xt, .int .i64 xw]]).run Try.prog X = .ok (.tuple #[]) w' ∧ TreeS w' base tb mb (.slice (some ad) n c) L (delM M (TV.nm ⟨xa, .slice xA xb.length xc, xb, xf, xt, xw⟩)) ∧ Fr (fun k => k = mb) w2 w') := by
    intro X hX
    have hTX := HR.out.below hX
    obtain ⟨w', hr, hm, hf, _⟩ := hTX.map.del nmW placeU (TV.nm ⟨xa, .slice xA xb.length xc, xb, xf, xt, xw⟩)
    exact ⟨w', hr, hTX.remap hf hm, (Fr.of_below hX : Fr (fun k => k = mb) w2 X).trans hf (fun k _ h => h)⟩
  have HCS : Hid (∀ X : World, Fr (fun k => k = mb) w2 X → X.cell? ⟨tb, 1, none⟩ = some (.map (some mb)) ∧ X.cell? ⟨pb, 0, none⟩ = some (.int .i64 xa) ∧ X.cell? ⟨pb, 1, none⟩ = some (.slice xA xb.length xc) ∧ X.cell? ⟨pb, 2, none⟩ = some (.int .i64 xf) ∧ X.cell? ⟨pb, 3, none⟩ = some (.int .i64 xt) ∧ X.cell? ⟨pb, 4, none⟩ = some (.int .i64 xw)) := by
    intro X hX
    have h1 := HMNE.out.1
    have h2 := HMNE.out.2
    have k1 := hX.blk HR.out.blk (fun e => h1 e.symm)
    have k2 := hX.blk HP.out (fun e => h2 e.symm)
    exact ⟨k1.cell 1, k2.cell 0, k2.cell 1, k2.cell 2, k2.cell 3, k2.cell 4⟩
  obtain ⟨t1, p0, p1, p2, p3, p4⟩ := HCS.out w2 (Fr.refl _ w2)
  go_region_held3 (fun w' : World => w'.cell? ⟨tb, 1, none⟩ = some (.map (some mb)) ∧ w'.cell? ⟨pb, 0, none⟩ = some (.int .i64 xa) ∧ w'.cell? ⟨pb, 1, none⟩ = some (.slice xA xb.length xc) ∧ w'.cell? ⟨pb, 2, none⟩ = some (.int .i64 xf) ∧ w'.cell? ⟨pb, 3, none⟩ = some (.int .i64 xt) ∧ w'.cell? ⟨pb, 4, none⟩ = some (.int .i64 xw)) (first | exact HCS.out _ ((Fr.refl _ w2).drewN 1) | exact HCS.out _ hk7 | exact HCS.out _ hf8) (first
    | (go_at_call 32; refine (HNM.out _ ((Below.refl _ _).drewN 1)).mono ?_; rintro e w7 ⟨rfl, hb7⟩; have hk6 : Below w2.heap.size w2 w7 := ((Below.refl w2.heap.size w2).drewN 1).trans hb7; have hk7 : Fr (fun k => k = mb) w2 w7 := Fr.of_below hk6; obtain ⟨w8, hrun, ht8, hf8⟩ := HUP.out w7 hk6))
  all_goals
    clear t1 p0 p1 p2 p3 p4 hrun
    obtain ⟨t1, p0, p1, p2, p3, p4⟩ := HCS.out w8 hf8
    have hz8 := hf8.size
    have HT8 := hide ht8
    have HF8 := hide hf8
    clear ht8 hf8 hb7 hk6 hk7
    go_wp2_with fail
    go_ret
    exact ⟨rfl, _, HT8.out, HF2.out.trans HF8.out (fun j _ h => .inr (.inl h)), fun g hg => .inl hg⟩

end Go.Proofs.Ytogelnljkdcajaa
