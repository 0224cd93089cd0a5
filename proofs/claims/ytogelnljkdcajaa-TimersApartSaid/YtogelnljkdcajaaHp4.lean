/- timers.Heap: Cancel. -/
import Derived.Test.YtogelnljkdcajaaHp3
namespace Go.Proofs.Ytogelnljkdcajaa
open Go.RowKit Go.Sort
set_option linter.unusedVariables false
set_option linter.unusedSimpArgs false

theorem TreeS.fr {S : Nat → Prop} {w w' : World} {base tb mb : Nat} {lv : Value} {L : List TV} {M : List (Nm × Int)} (h : TreeS w base tb mb lv L M) (hf : Fr S w w') (h1 : ¬ S tb) (h2 : ¬ S mb) (h3 : ∀ g, lv.ownBlock = some g → ¬ S g) (h4 : ∀ g cs, Blk w g bT cs → ¬ S g) : TreeS w' base tb mb lv L M :=
  ⟨hf.blk h.blk h1, h.own.fr hf h3, h.map.fr hf h2, fun x hx => ⟨(h.keys x hx).1.fr hf (fun g hg => by
    obtain ⟨cs, hc⟩ := (h.keys x hx).1.typed g hg
    exact h4 g cs hc), (h.keys x hx).2⟩, h.bt, h.bm⟩
/-- a block that holds one timer is written: the heap stands -/
theorem HpS.put5 {w : World} {base hb tb mb pb : Nat} {lv : Value} {L : List TV} {cs : Array Value} (h : HpS w base hb tb mb lv L) (hp : Blk w pb tmT cs) (hl : lv.ownBlock ≠ some pb) (x : TV) : HpS (Go.Proofs.Ytogelnljkdcajaa.put5 w ⟨pb, 0, none⟩ x) base hb tb mb lv L := by
  have hf : Fr (fun j => j = pb) w (Go.Proofs.Ytogelnljkdcajaa.put5 w ⟨pb, 0, none⟩ x) := put5_fr (S := fun j => j = pb) (p := ⟨pb, 0, none⟩) (Fr.refl _ w) rfl x
  obtain ⟨M, ht, hg⟩ := h.hp.st
  refine ⟨hf.blk h.blk (h.blk.apart hp (by decide)), ⟨⟨M, ht.fr hf (ht.blk.apart hp (by decide)) (fun e => ht.map.ne_blk hp e) (fun g hg e => hl (by rw [hg, e])) (fun g cs hc => hc.apart hp (by decide)), hg⟩, h.hp.hp, h.hp.ln⟩, h.bh⟩

theorem place_look (w : World) (mb : Nat) (M : List (Nm × Int)) (h : MapR w mb nmV intV M) (a : Nm) : (Instr.lookup placeT (.map (some mb)) (nmV a) true).run Try.prog w = .ok (.tuple #[((lk M a).map intV).getD (.int .i64 0), .bool (lk M a).isSome]) w :=
  h.look nmW placeU zeroInt a true

/-- what a canceled call leaves -/
def CanPost (w : World) (base hb tb mb : Nat) (lv : Value) (L : List TV) (a : Nm) (e : Ending) (w' : World) : Prop :=
  (a ∉ L.map TV.nm ∧ e = .returned (.tuple #[.agg #[.int .i64 0, .slice none 0 0, .int .i64 0, .int .i64 0, .int .i64 0], .bool false]) ∧ Below w.heap.size w w') ∨
  (∃ x lv' L', x ∈ L ∧ x.nm = a ∧ e = .returned (.tuple #[.agg x.cells.toArray, .bool true]) ∧ HpS w' base hb tb mb lv' L' ∧ KeyO w' base x ∧ L.Perm (L' ++ [x]) ∧ Fr (HBk tb mb lv) w w' ∧ NewB w lv lv')

set_option maxRecDepth 100000 in
set_option maxHeartbeats 4000000 in
theorem cancel_any (w : World) (base hb tb mb : Nat) (lv : Value) (L : List TV) (kA : Option Addr) (kc B : Nat) (D : List Int) (f t x : Int) (h : HpS w base hb tb mb lv L) (hs : Sl w B (.slice kA D.length kc) 1 D.length (bys D)) (hB : B ≤ w.heap.size) :
    Calls Try.prog 13 #[.pointer (some ⟨hb, 0, none⟩), .agg #[.slice kA D.length kc, .int .i64 f, .int .i64 t], .int .i64 x] w (CanPost w base hb tb mb lv L ⟨strOfNums D, f, t, x⟩) := by
  obtain ⟨c0, t0, t1, hlt, htl, A, c, rfl, hc⟩ := h.open
  have HH := hide h
  obtain ⟨M, ht, hg⟩ := h.hp.st
  have HT := hide ht
  have HG := hide hg
  have HS := hide hs
  clear h ht hg hs
  go_enter Try.func13, Try.ntmps13
  go_upto_region 1 with fail
  have HB1 : Hid (Below w.heap.size w ((w.alloc (.cells #[.slice kA D.length kc, .int .i64 f, .int .i64 t] keyT)).alloc (.cells #[.int .i64 0, .slice none 0 0, .int .i64 0, .int .i64 0, .int .i64 0] tmT))) := ((Below.refl w.heap.size w).alloc (Nat.le_refl _) _).alloc (by simp) _
  have HK1 : Hid (Blk ((w.alloc (.cells #[.slice kA D.length kc, .int .i64 f, .int .i64 t] keyT)).alloc (.cells #[.int .i64 0, .slice none 0 0, .int .i64 0, .int .i64 0, .int .i64 0] tmT)) w.heap.size keyT #[.slice kA D.length kc, .int .i64 f, .int .i64 t]) := (Blk.new w _ _).alloc _
  have HP1 : Hid (Blk ((w.alloc (.cells #[.slice kA D.length kc, .int .i64 f, .int .i64 t] keyT)).alloc (.cells #[.int .i64 0, .slice none 0 0, .int .i64 0, .int .i64 0, .int .i64 0] tmT)) (w.heap.size + 1) tmT #[.int .i64 0, .slice none 0 0, .int .i64 0, .int .i64 0, .int .i64 0]) := by
    have h9 := Blk.new (w.alloc (.cells #[.slice kA D.length kc, .int .i64 f, .int .i64 t] keyT)) tmT #[.int .i64 0, .slice none 0 0, .int .i64 0, .int .i64 0, .int .i64 0]
    simpa [Hid] using h9
  change Code.wp _ _ _ _ ((w.alloc (.cells #[.slice kA D.length kc, .int .i64 f, .int .i64 t] keyT)).alloc (.cells #[.int .i64 0, .slice none 0 0, .int .i64 0, .int .i64 0, .int .i64 0] tmT))
  generalize (w.alloc (.cells #[.slice kA D.length kc, .int .i64 f, .int .i64 t] keyT)).alloc (.cells #[.int .i64 0, .slice none 0 0, .int .i64 0, .int .i64 0, .int .i64 0] tmT) = w1 at *
  obtain ⟨kb, hkb⟩ : ∃ kb, kb = w.heap.size := ⟨_, rfl⟩
  obtain ⟨pb, hpb⟩ : ∃ pb, pb = w.heap.size + 1 := ⟨_, rfl⟩
  have HPB : Hid (w.heap.size ≤ pb) := by show _ ≤ _; omega
  rw [← hpb] at HP1 ⊢
  rw [← hkb] at HK1 ⊢
  clear hkb hpb c0 t0 t1 hlt htl
  have HH1 := hide (HH.out.below HB1.out)
  have HT1 := hide (HT.out.below HB1.out)
  have HS1 := hide (HS.out.below (HB1.out.mono hB))
  obtain ⟨c0, t0, t1, hlt, htl, _⟩ := HH1.out.open
  have hk1 := HK1.out.lt
  have hp1 := HP1.out.lt
  have k0 : w1.cell? ⟨kb, 0, none⟩ = some (.slice kA D.length kc) := HK1.out.cell 0
  have k1 : w1.cell? ⟨kb, 1, none⟩ = some (.int .i64 f) := HK1.out.cell 1
  have k2 : w1.cell? ⟨kb, 2, none⟩ = some (.int .i64 t) := HK1.out.cell 2
  have y1 := Aft.cell c0 hlt
  have y3 := Aft.cell t1 htl
  have z0 := Aft.cell k0 hk1
  have z1 := Aft.cell k1 hk1
  have z2 := Aft.cell k2 hk1
  have HNM : Hid (∀ X : World, Below w1.heap.size w1 X → Calls Try.prog 32 #[.agg #[.slice kA D.length kc, .int .i64 f, .int .i64 t], .int .i64 x] X fun e w' => e = .returned (.agg #[.string (strOfNums D), .int .i64 f, .int .i64 t, .int .i64 x]) ∧ Below X.heap.size X w') := fun X hX =>
    nameOf_any _ D D.length B f t x X (HS1.out.below (hX.mono (Nat.le_trans hB HB1.out.size))) rfl (Nat.le_trans hB (Nat.le_trans HB1.out.size hX.size))
  cases hlk : lk M ⟨strOfNums D, f, t, x⟩ with
  | none =>
    have yl : ∀ p : Aft w1, (Instr.lookup placeT (.map (some mb)) (.agg #[.string (strOfNums D), .int .i64 f, .int .i64 t, .int .i64 x]) true).run Try.prog p.w' = .ok (.tuple #[.int .i64 0, .bool false]) p.w' := by
      intro p
      have h9 := place_look p.w' mb M (HT1.out.map.below p.h HT1.out.map.lt) ⟨strOfNums D, f, t, x⟩
      rw [hlk] at h9
      exact h9
    have HNO : Hid ((⟨strOfNums D, f, t, x⟩ : Nm) ∉ L.map TV.nm) := by
      intro hm
      obtain ⟨y, hy, hn⟩ := List.mem_map.1 hm
      obtain ⟨i, hi, he⟩ := List.getElem_of_mem hy
      have := (HG.out.lk ⟨strOfNums D, f, t, x⟩ i).2 ⟨i, hi, rfl, by rw [gt_of hi, he]; exact hn⟩
      rw [hlk] at this
      cases this
    clear hlk c0 t0 t1 k0 k1 k2
    refine wp_region_aft (by kernel_rfl) (by kernel_rfl) ?_
    repeat (go_big_quiet_step (first
      | (go_at_call 32; with_reducible exact calls_aft (HNM.out _ (Aft.h _)))))
    refine wpQuiet_nil ?_
    intro w9 hb9
    have HB9 := hide (HB1.out.trans (hb9.mono HB1.out.size))
    have HP9 := hide (HP1.out.below hb9 hp1)
    clear hb9 y1 y3 yl z0 z1 z2 hlt htl hk1 hp1 HNM
    have q0 : w9.cell? ⟨pb, 0, none⟩ = some (.int .i64 0) := HP9.out.cell 0
    have q1 : w9.cell? ⟨pb, 1, none⟩ = some (.slice none 0 0) := HP9.out.cell 1
    have q2 : w9.cell? ⟨pb, 2, none⟩ = some (.int .i64 0) := HP9.out.cell 2
    have q3 : w9.cell? ⟨pb, 3, none⟩ = some (.int .i64 0) := HP9.out.cell 3
    have q4 : w9.cell? ⟨pb, 4, none⟩ = some (.int .i64 0) := HP9.out.cell 4
    have y0 := HP9.out.frozen 0
    have y1 := HP9.out.frozen 1
    have y2 := HP9.out.frozen 2
    have y3 := HP9.out.frozen 3
    have y4 := HP9.out.frozen 4
    have hlp := HP9.out.lt
    go_wp2_with fail
    have HR9 : Hid (Blk (put5 w9 ⟨pb, 0, none⟩ ⟨0, .slice none 0 0, [], 0, 0, 0⟩) pb tmT #[.int .i64 0, .slice none 0 0, .int .i64 0, .int .i64 0, .int .i64 0] ∧ Below w.heap.size w (put5 w9 ⟨pb, 0, none⟩ ⟨0, .slice none 0 0, [], 0, 0, 0⟩)) := by
      refine ⟨?_, (put5_fr (S := fun j => w.heap.size ≤ j) (Fr.of_below HB9.out) HPB.out _).below (Nat.le_refl _) (fun k hk h => by omega)⟩
      unfold put5
      simp only [Nat.zero_add]
      exact ((((HP9.out.put 0 _).put 1 _).put 2 _).put 3 _).put 4 _
    change bodyPost _ _ _ _ _ (put5 w9 ⟨pb, 0, none⟩ ⟨0, .slice none 0 0, [], 0, 0, 0⟩)
    generalize put5 w9 ⟨pb, 0, none⟩ ⟨0, .slice none 0 0, [], 0, 0, 0⟩ = w8 at *
    have c0 : w8.cell? ⟨pb, 0, none⟩ = some (.int .i64 0) := HR9.out.1.cell 0
    have c1 : w8.cell? ⟨pb, 1, none⟩ = some (.slice none 0 0) := HR9.out.1.cell 1
    have c2 : w8.cell? ⟨pb, 2, none⟩ = some (.int .i64 0) := HR9.out.1.cell 2
    have c3 : w8.cell? ⟨pb, 3, none⟩ = some (.int .i64 0) := HR9.out.1.cell 3
    have c4 : w8.cell? ⟨pb, 4, none⟩ = some (.int .i64 0) := HR9.out.1.cell 4
    have hres : Try.f13.results = #[.cell 6 tmT, .tmp 7] := by kernel_rfl
    refine bodyPost_ret (v := .tuple #[.agg #[.int .i64 0, .slice none 0 0, .int .i64 0, .int .i64 0, .int .i64 0], .bool false]) ?_ rfl (.inl ⟨HNO.out, rfl, HR9.out.2⟩)
    simp [results, hres, go_sem, c0, c1, c2, c3, c4]
  | some v =>
    obtain ⟨i, hi, rfl, hnm⟩ := (HG.out.lk _ _).1 hlk
    have yl : ∀ p : Aft w1, (Instr.lookup placeT (.map (some mb)) (.agg #[.string (strOfNums D), .int .i64 f, .int .i64 t, .int .i64 x]) true).run Try.prog p.w' = .ok (.tuple #[.int .i64 i, .bool true]) p.w' := by
      intro p
      have h9 := place_look p.w' mb M (HT1.out.map.below p.h HT1.out.map.lt) ⟨strOfNums D, f, t, x⟩
      rw [hlk] at h9
      exact h9
    have HI := hide hi
    have HNMI := hide hnm
    have HNB : Hid (∀ j, HBk tb mb (.slice A L.length c) j → j < w.heap.size) := by
      intro j hj
      rcases hj with h9 | h9 | h9
      · rw [h9]; exact HT.out.blk.lt
      · rw [h9]; exact HT.out.map.lt
      · exact (HT.out.own.lt j h9).2
    have HNH : Hid (¬ HBk tb mb (.slice A L.length c) hb) := by
      rintro (h9 | h9 | h9)
      · exact HH.out.blk.apart HT.out.blk (by decide) h9
      · exact HT.out.map.ne_blk HH.out.blk h9.symm
      · exact HT.out.own.ne HH.out.blk (by decide) h9
    clear hlk k0 k1 k2 hi hnm
    refine wp_region_aft (by kernel_rfl) (by kernel_rfl) ?_
    repeat (go_big_quiet_step (first
      | (go_at_call 32; with_reducible exact calls_aft (HNM.out _ (Aft.h _)))))
    refine wpQuiet_nil ?_
    intro w9 hb9
    have HB9 := hide (HB1.out.trans (hb9.mono HB1.out.size))
    have HP9 := hide (HP1.out.below hb9 hp1)
    have HH9 := hide (HH1.out.below hb9)
    clear hb9 y1 y3 yl z0 z1 z2 c0 t0 t1 hlt htl hk1 hp1 HNM
    obtain ⟨c0, t0, t1, hlt, htl, _⟩ := HH9.out.open
    have ht1 : ∀ (u : Value) (W : World), (Instr.typeAssert (.iface tmT u) 20 tmT false).run Try.prog W = .ok u W := tassert
    have hlp := HP9.out.lt
    go_wp2_with fail
    refine (hremove_any w9 base tb mb _ L i HH9.out.hp HI.out).mono ?_
    obtain ⟨y, hy⟩ : ∃ y, y = gt L i := ⟨_, rfl⟩
    have HY := hide hy
    rw [← hy]
    clear hy
    rintro e w2 ⟨rfl, lv', L', hp2, hk2, hpm, hf2, hn2⟩
    have hpn : ¬ HBk tb mb (.slice A L.length c) pb := fun h9 => by have := HNB.out pb h9; have := HPB.out; omega
    have HP2 := hide (hf2.blk HP9.out hpn)
    have HL2 : Hid (lv'.ownBlock ≠ some pb) := by
      intro h9
      rcases hn2 pb h9 with h8 | h8
      · exact hpn (.inr (.inr h8))
      · omega
    have HS2 : Hid (HpS w2 base hb tb mb lv' L') := ⟨hf2.blk HH9.out.blk HNH.out, hp2, HH9.out.bh⟩
    have HF2 : Hid (Fr (HBk tb mb (.slice A L.length c)) w w2) := (Fr.of_below HB9.out : Fr (HBk tb mb (.slice A L.length c)) w w9).trans hf2 (fun _ _ h => h)
    have HN2 : Hid (NewB w (.slice A L.length c) lv') := fun g hg => (hn2 g hg).imp id (fun h9 => Nat.le_trans HB9.out.size h9)
    have HK2 := hide hk2
    have HPM := hide hpm
    clear hp2 hk2 hpm hf2 hn2 hpn c0 t0 t1 hlt htl hlp
    obtain ⟨yA, yc, hyv, _⟩ := HK2.out.1.sl.form
    have HYM : Hid (y ∈ L) := by show y ∈ L; rw [HY.out, gt_of HI.out]; exact List.getElem_mem _
    have HYN : Hid (y.nm = ⟨strOfNums D, f, t, x⟩) := by show _ = _; rw [HY.out]; exact HNMI.out
    clear HY HNMI
    obtain ⟨ya, yk, yb, yf, yt, yw⟩ := y
    simp only at hyv
    subst hyv
    unfold TV.cells
    simp only
    have q0 : w2.cell? ⟨pb, 0, none⟩ = some (.int .i64 0) := HP2.out.cell 0
    have q1 : w2.cell? ⟨pb, 1, none⟩ = some (.slice none 0 0) := HP2.out.cell 1
    have q2 : w2.cell? ⟨pb, 2, none⟩ = some (.int .i64 0) := HP2.out.cell 2
    have q3 : w2.cell? ⟨pb, 3, none⟩ = some (.int .i64 0) := HP2.out.cell 3
    have q4 : w2.cell? ⟨pb, 4, none⟩ = some (.int .i64 0) := HP2.out.cell 4
    have y0 := HP2.out.frozen 0
    have y1 := HP2.out.frozen 1
    have y2 := HP2.out.frozen 2
    have y3 := HP2.out.frozen 3
    have y4 := HP2.out.frozen 4
    have hlp := HP2.out.lt
    go_wp2_with fail
    have HYO : Hid ((Value.slice yA yb.length yc).ownBlock ≠ some pb) := HK2.out.1.ne HP2.out (by decide)
    have HR9 : Hid (Blk (put5 w2 ⟨pb, 0, none⟩ ⟨ya, .slice yA yb.length yc, yb, yf, yt, yw⟩) pb tmT #[.int .i64 ya, .slice yA yb.length yc, .int .i64 yf, .int .i64 yt, .int .i64 yw] ∧
        Fr (HBk tb mb (.slice A L.length c)) w (put5 w2 ⟨pb, 0, none⟩ ⟨ya, .slice yA yb.length yc, yb, yf, yt, yw⟩) ∧
        KeyO (put5 w2 ⟨pb, 0, none⟩ ⟨ya, .slice yA yb.length yc, yb, yf, yt, yw⟩) base ⟨ya, .slice yA yb.length yc, yb, yf, yt, yw⟩ ∧
        HpS (put5 w2 ⟨pb, 0, none⟩ ⟨ya, .slice yA yb.length yc, yb, yf, yt, yw⟩) base hb tb mb lv' L') := by
      refine ⟨?_, ?_, ⟨?_, HK2.out.2⟩, HS2.out.put5 HP2.out HL2.out _⟩
      · unfold put5
        simp only [Nat.zero_add]
        exact ((((HP2.out.put 0 _).put 1 _).put 2 _).put 3 _).put 4 _
      · unfold put5
        exact ((((HF2.out.put (p := ⟨pb, 0, none⟩) (.inr HPB.out) _).put (p := ⟨pb, 0 + 1, none⟩) (.inr HPB.out) _).put (p := ⟨pb, 0 + 2, none⟩) (.inr HPB.out) _).put (p := ⟨pb, 0 + 3, none⟩) (.inr HPB.out) _).put (p := ⟨pb, 0 + 4, none⟩) (.inr HPB.out) _
      · unfold put5
        exact ((((HK2.out.1.put (p := ⟨pb, 0, none⟩) HYO.out _).put (p := ⟨pb, 0 + 1, none⟩) HYO.out _).put (p := ⟨pb, 0 + 2, none⟩) HYO.out _).put (p := ⟨pb, 0 + 3, none⟩) HYO.out _).put (p := ⟨pb, 0 + 4, none⟩) HYO.out _
    change bodyPost _ _ _ _ _ (put5 w2 ⟨pb, 0, none⟩ ⟨ya, .slice yA yb.length yc, yb, yf, yt, yw⟩)
    generalize put5 w2 ⟨pb, 0, none⟩ ⟨ya, .slice yA yb.length yc, yb, yf, yt, yw⟩ = w8 at *
    have c0 : w8.cell? ⟨pb, 0, none⟩ = some (.int .i64 ya) := HR9.out.1.cell 0
    have c1 : w8.cell? ⟨pb, 1, none⟩ = some (.slice yA yb.length yc) := HR9.out.1.cell 1
    have c2 : w8.cell? ⟨pb, 2, none⟩ = some (.int .i64 yf) := HR9.out.1.cell 2
    have c3 : w8.cell? ⟨pb, 3, none⟩ = some (.int .i64 yt) := HR9.out.1.cell 3
    have c4 : w8.cell? ⟨pb, 4, none⟩ = some (.int .i64 yw) := HR9.out.1.cell 4
    have hres : Try.f13.results = #[.cell 6 tmT, .tmp 7] := by kernel_rfl
    refine bodyPost_ret (v := .tuple #[.agg #[.int .i64 ya, .slice yA yb.length yc, .int .i64 yf, .int .i64 yt, .int .i64 yw], .bool true]) ?_ rfl (.inr ⟨⟨ya, .slice yA yb.length yc, yb, yf, yt, yw⟩, lv', L', HYM.out, HYN.out, rfl, HR9.out.2.2.2, HR9.out.2.2.1, HPM.out, HR9.out.2.1, HN2.out⟩)
    simp [results, hres, go_sem, c0, c1, c2, c3, c4]

end Go.Proofs.Ytogelnljkdcajaa
