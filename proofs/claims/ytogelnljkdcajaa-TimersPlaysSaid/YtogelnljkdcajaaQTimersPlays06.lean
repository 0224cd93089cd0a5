/- timers.Heap: Cancel, Next. / timers.Heap: Cancel. / timers.Heap: Set: the plain law. / timers.Heap: Set: the walk. -/
import Derived.Test.YtogelnljkdcajaaQTimersPlays05

namespace Go.Proofs.Ytogelnljkdcajaa
open Go.RowKit Go.Sort
set_option linter.unusedVariables false
set_option linter.unusedSimpArgs false


set_option maxRecDepth 100000 in
set_option maxHeartbeats 4000000 in
theorem hnext_any (w : World) (base hb tb mb : Nat) (lv : Value) (L : List TV) (h : HpS w base hb tb mb lv L) :
    Calls Try.prog 16 #[.pointer (some ⟨hb, 0, none⟩)] w fun e w' => Below w.heap.size w w' ∧
      ((L = [] ∧ e = .returned (.tuple #[.agg #[.int .i64 0, .slice none 0 0, .int .i64 0, .int .i64 0, .int .i64 0], .bool false])) ∨ (L ≠ [] ∧ ∃ u, e = .returned (.tuple #[.agg #[.int .i64 (gt L 0).a, u, .int .i64 (gt L 0).f, .int .i64 (gt L 0).t, .int .i64 (gt L 0).w], .bool true]) ∧ Own w' w.heap.size bT 1 u (gt L 0).kb.length (bys (gt L 0).kb))) := by
  obtain ⟨c0, t0, t1, hlt, htl, A, c, rfl, hc⟩ := h.open
  obtain ⟨M, ht, hg⟩ := h.hp.st
  obtain ⟨n, hn⟩ : ∃ n, n = L.length := ⟨_, rfl⟩
  by_cases hL : L = []
  · have HL := hide hL
    have hn0 : L.length = 0 := by rw [hL]; rfl
    rw [hn0] at t0
    clear h ht hg hn hc hn0 hL
    go_enter Try.func16, Try.ntmps16
    go_wp2_with fail
    have HB : Hid (Below w.heap.size w (w.alloc (.cells #[.int .i64 0, .slice none 0 0, .int .i64 0, .int .i64 0, .int .i64 0] tmT))) := (Below.refl _ _).alloc (Nat.le_refl _) _
    have hK := Blk.new w tmT #[.int .i64 0, .slice none 0 0, .int .i64 0, .int .i64 0, .int .i64 0]
    change bodyPost _ _ _ _ _ (w.alloc (.cells #[.int .i64 0, .slice none 0 0, .int .i64 0, .int .i64 0, .int .i64 0] tmT))
    generalize w.alloc (.cells #[.int .i64 0, .slice none 0 0, .int .i64 0, .int .i64 0, .int .i64 0] tmT) = w1 at *
    have c0 : w1.cell? ⟨w.heap.size, 0, none⟩ = some (.int .i64 0) := hK.cell 0
    have c1 : w1.cell? ⟨w.heap.size, 1, none⟩ = some (.slice none 0 0) := hK.cell 1
    have c2 : w1.cell? ⟨w.heap.size, 2, none⟩ = some (.int .i64 0) := hK.cell 2
    have c3 : w1.cell? ⟨w.heap.size, 3, none⟩ = some (.int .i64 0) := hK.cell 3
    have c4 : w1.cell? ⟨w.heap.size, 4, none⟩ = some (.int .i64 0) := hK.cell 4
    have hres : Try.f16.results = #[.cell 2 tmT, .tmp 3] := by kernel_rfl
    refine bodyPost_ret (v := .tuple #[.agg #[.int .i64 0, .slice none 0 0, .int .i64 0, .int .i64 0, .int .i64 0], .bool false]) ?_ rfl ⟨HB.out, .inl ⟨HL.out, rfl⟩⟩
    simp [results, hres, go_sem, c0, c1, c2, c3, c4]
  · have HL := hide hL
    have hl0 : 0 < L.length := by cases L with | nil => exact absurd rfl hL | cons => simp
    obtain ⟨ad, rfl, hab, a0, a1, a2, a3, a4⟩ := tm_at ht.own.sl hl0 rfl
    have hk := ht.keys L[0] (List.getElem_mem hl0)
    have hz0 : ad.add (0 * 5) = ad := by rw [Nat.zero_mul]; unfold Addr.add; split <;> simp_all
    rw [hz0] at hab a0 a1 a2 a3 a4
    rw [← gt_of hl0] at a0 a1 a2 a3 a4 hk
    rw [← hn] at t0 hl0
    generalize gt L 0 = x at a0 a1 a2 a3 a4 hk ⊢
    have e0 : ((n : Int) = 0) = False := eq_false (by omega)
    have hn0 : (0 : Int) < (n : Int) := by omega
    obtain ⟨xA, xc, hkx, hxc⟩ := hk.1.sl.form
    obtain ⟨xa, xk, xb, xf, xt, xw⟩ := x
    simp only at hkx hxc a0 a1 a2 a3 a4 hk
    subst hkx
    have HK := hide hk
    clear h ht hg hn hc hL hk
    go_enter Try.func16, Try.ntmps16
    go_wp2_with fail
    have HB : Hid (Below w.heap.size w (w.alloc (.cells #[.int .i64 0, .slice none 0 0, .int .i64 0, .int .i64 0, .int .i64 0] tmT))) := (Below.refl _ _).alloc (Nat.le_refl _) _
    have HP := hide (Blk.new w tmT #[.int .i64 0, .slice none 0 0, .int .i64 0, .int .i64 0, .int .i64 0])
    have HSL := hide (HK.out.1.sl.below HB.out)
    refine (copied_any xa xf xt xw _ xb xb.length w.heap.size (w.alloc (.cells #[.int .i64 0, .slice none 0 0, .int .i64 0, .int .i64 0, .int .i64 0] tmT)) HSL.out rfl (Nat.le_trans HK.out.2.2 (by decide)) HB.out.size).mono ?_
    generalize w.alloc (.cells #[.int .i64 0, .slice none 0 0, .int .i64 0, .int .i64 0, .int .i64 0] tmT) = w1 at *
    rintro e w2 ⟨u, rfl, ho, hb2⟩
    obtain ⟨uA, uc, rfl, huc⟩ := ho.sl.form
    have HP2 := hide (HP.out.below hb2 HP.out.lt)
    have HB2 := hide (HB.out.trans (hb2.mono HB.out.size))
    have HO2 := hide (ho.lower HB.out.size)
    have HNE : Hid ((Value.slice uA xb.length uc).ownBlock ≠ some w.heap.size) := ho.ne HP2.out (by decide)
    clear ho hb2 HSL HK
    clear c0 t0 t1 hlt htl hab a0 a1 a2 a3 a4
    have q0 : w2.cell? ⟨w.heap.size, 0, none⟩ = some (.int .i64 0) := HP2.out.cell 0
    have q1 : w2.cell? ⟨w.heap.size, 1, none⟩ = some (.slice none 0 0) := HP2.out.cell 1
    have q2 : w2.cell? ⟨w.heap.size, 2, none⟩ = some (.int .i64 0) := HP2.out.cell 2
    have q3 : w2.cell? ⟨w.heap.size, 3, none⟩ = some (.int .i64 0) := HP2.out.cell 3
    have q4 : w2.cell? ⟨w.heap.size, 4, none⟩ = some (.int .i64 0) := HP2.out.cell 4
    have y0 := HP2.out.frozen 0
    have y1 := HP2.out.frozen 1
    have y2 := HP2.out.frozen 2
    have y3 := HP2.out.frozen 3
    have y4 := HP2.out.frozen 4
    have hlp := HP2.out.lt
    go_wp2_with fail
    have HR9 : Hid (Own (put5 w2 ⟨w.heap.size, 0, none⟩ ⟨xa, .slice uA xb.length uc, xb, xf, xt, xw⟩) w.heap.size bT 1 (.slice uA xb.length uc) xb.length (bys xb) ∧
        Blk (put5 w2 ⟨w.heap.size, 0, none⟩ ⟨xa, .slice uA xb.length uc, xb, xf, xt, xw⟩) w.heap.size tmT #[.int .i64 xa, .slice uA xb.length uc, .int .i64 xf, .int .i64 xt, .int .i64 xw] ∧
        Below w.heap.size w (put5 w2 ⟨w.heap.size, 0, none⟩ ⟨xa, .slice uA xb.length uc, xb, xf, xt, xw⟩)) := by
      unfold put5
      simp only [Nat.zero_add]
      refine ⟨?_, ?_, ?_⟩
      · exact ((((HO2.out.put (p := ⟨w.heap.size, 0, none⟩) HNE.out _).put (p := ⟨w.heap.size, 1, none⟩) HNE.out _).put (p := ⟨w.heap.size, 2, none⟩) HNE.out _).put (p := ⟨w.heap.size, 3, none⟩) HNE.out _).put (p := ⟨w.heap.size, 4, none⟩) HNE.out _
      · exact ((((HP2.out.put 0 _).put 1 _).put 2 _).put 3 _).put 4 _
      · exact ((((((Fr.of_below HB2.out : Fr nob w w2).put (p := ⟨w.heap.size, 0, none⟩) (.inr (Nat.le_refl _)) _).put (p := ⟨w.heap.size, 1, none⟩) (.inr (Nat.le_refl _)) _).put (p := ⟨w.heap.size, 2, none⟩) (.inr (Nat.le_refl _)) _).put (p := ⟨w.heap.size, 3, none⟩) (.inr (Nat.le_refl _)) _).put (p := ⟨w.heap.size, 4, none⟩) (.inr (Nat.le_refl _)) _).below (Nat.le_refl _) (fun k _ h => h)
    change bodyPost _ _ _ _ _ (put5 w2 ⟨w.heap.size, 0, none⟩ ⟨xa, .slice uA xb.length uc, xb, xf, xt, xw⟩)
    generalize put5 w2 ⟨w.heap.size, 0, none⟩ ⟨xa, .slice uA xb.length uc, xb, xf, xt, xw⟩ = w9 at *
    have c0 : w9.cell? ⟨w.heap.size, 0, none⟩ = some (.int .i64 xa) := HR9.out.2.1.cell 0
    have c1 : w9.cell? ⟨w.heap.size, 1, none⟩ = some (.slice uA xb.length uc) := HR9.out.2.1.cell 1
    have c2 : w9.cell? ⟨w.heap.size, 2, none⟩ = some (.int .i64 xf) := HR9.out.2.1.cell 2
    have c3 : w9.cell? ⟨w.heap.size, 3, none⟩ = some (.int .i64 xt) := HR9.out.2.1.cell 3
    have c4 : w9.cell? ⟨w.heap.size, 4, none⟩ = some (.int .i64 xw) := HR9.out.2.1.cell 4
    have hres : Try.f16.results = #[.cell 2 tmT, .tmp 3] := by kernel_rfl
    refine bodyPost_ret (v := .tuple #[.agg #[.int .i64 xa, .slice uA xb.length uc, .int .i64 xf, .int .i64 xt, .int .i64 xw], .bool true]) ?_ rfl ⟨HR9.out.2.2, .inr ⟨HL.out, _, rfl, HR9.out.1⟩⟩
    simp [results, hres, go_sem, c0, c1, c2, c3, c4]

end Go.Proofs.Ytogelnljkdcajaa

namespace Go.Proofs.Ytogelnljkdcajaa
open Go.RowKit Go.Sort
set_option linter.unusedVariables false
set_option linter.unusedSimpArgs false

theorem TreeS.fr {S : Nat → Prop} {w w' : World} {base tb mb : Nat} {lv : Value} {L : List TV} {M : List (Nm × Int)} (h : TreeS w base tb mb lv L M) (hf : Fr S w w') (h1 : ¬ S tb) (h2 : ¬ S mb) (h3 : ∀ g, lv.ownBlock = some g → ¬ S g) (h4 : ∀ g cs, Blk w g bT cs → ¬ S g) : TreeS w' base tb mb lv L M :=
  ⟨hf.blk h.blk h1, h.own.fr hf h3, h.map.fr hf h2, fun x hx => ⟨(h.keys x hx).1.fr hf (fun g hg => by
    obtain ⟨cs, hc⟩ := (h.keys x hx).1.typed g hg
    exact h4 g cs hc), (h.keys x hx).2⟩, h.bt, h.bm⟩
/-- a block that holds one timer is written: the heap stands -/
theorem HpS.put5 {w : World} {base hb tb mb pb : Nat} {lv : Value} {L : List TV} {cs : Array Value} (h : HpS w base hb tb mb lv L) (hp : Blk w pb tmT cs) (hl : lv.ownBlock ≠ some pb) (x : TV) : HpS (Go.Proofs.Ytogelnljkdcajaa.put5 w ⟨pb, 0, none⟩ x) base hb tb mb lv L := by
  have hf : Fr (fun j => j = pb) w (Go.Proofs.Ytogelnljkdcajaa.put5 w ⟨pb, 0, none⟩ x) := put5_fr (S := fun j => j = pb) (p := ⟨pb, 0, none⟩) (Fr.refl _ w) rfl x
  obtain ⟨M, ht, hg⟩ := h.hp.st
  refine ⟨hf.blk h.blk (h.blk.apart hp (by decide)), ⟨⟨M, ht.fr hf (ht.blk.apart hp (by decide)) (fun e => ht.map.ne_blk hp e) (fun g hg e => hl (by rw [hg, e])) (fun g cs hc => hc.apart hp (by decide)), hg⟩, h.hp.hp, h.hp.ln⟩, h.bh⟩

theorem place_look (w : World) (mb : Nat) (M : List (Nm × Int)) (h : MapR w mb nmV intV M) (a : Nm) : (Instr.lookup placeT (.map (some mb)) (nmV a) true).run Try.prog w = .ok (.tuple #[((lk M a).map intV).getD (.int .i64 0), .bool (lk M a).isSome]) w :=
  h.look nmW placeU zeroInt a true

/-- what a canceled call leaves -/
def CanPost (w : World) (base hb tb mb : Nat) (lv : Value) (L : List TV) (a : Nm) (e : Ending) (w' : World) : Prop :=
  (a ∉ L.map TV.nm ∧ e = .returned (.tuple #[.agg #[.int .i64 0, .slice none 0 0, .int .i64 0, .int .i64 0, .int .i64 0], .bool false]) ∧ Below w.heap.size w w') ∨
  (∃ x lv' L', x ∈ L ∧ x.nm = a ∧ e = .returned (.tuple #[.agg x.cells.toArray, .bool true]) ∧ HpS w' base hb tb mb lv' L' ∧ KeyO w' base x ∧ L.Perm (L' ++ [x]) ∧ Fr (HBk tb mb lv) w w' ∧ NewB w lv lv')

set_option maxRecDepth 100000 in
set_option maxHeartbeats 4000000 in
theorem cancel_any (w : World) (base hb tb mb : Nat) (lv : Value) (L : List TV) (kA : Option Addr) (kc B : Nat) (D : List Int) (f t x : Int) (h : HpS w base hb tb mb lv L) (hs : Sl w B (.slice kA D.length kc) 1 D.length (bys D)) (hB : B ≤ w.heap.size) :
    Calls Try.prog 13 #[.pointer (some ⟨hb, 0, none⟩), .agg #[.slice kA D.length kc, .int .i64 f, .int .i64 t], .int .i64 x] w (CanPost w base hb tb mb lv L ⟨strOfNums D, f, t, x⟩) := by
  obtain ⟨c0, t0, t1, hlt, htl, A, c, rfl, hc⟩ := h.open
  have HH := hide h
  obtain ⟨M, ht, hg⟩ := h.hp.st
  have HT := hide ht
  have HG := hide hg
  have HS := hide hs
  clear h ht hg hs
  go_enter Try.func13, Try.ntmps13
  go_upto_region 1 with fail
  have HB1 : Hid (Below w.heap.size w ((w.alloc (.cells #[.slice kA D.length kc, .int .i64 f, .int .i64 t] keyT)).alloc (.cells #[.int .i64 0, .slice none 0 0, .int .i64 0, .int .i64 0, .int .i64 0] tmT))) := ((Below.refl w.heap.size w).alloc (Nat.le_refl _) _).alloc (by simp) _
  have HK1 : Hid (Blk ((w.alloc (.cells #[.slice kA D.length kc, .int .i64 f, .int .i64 t] keyT)).alloc (.cells #[.int .i64 0, .slice none 0 0, .int .i64 0, .int .i64 0, .int .i64 0] tmT)) w.heap.size keyT #[.slice kA D.length kc, .int .i64 f, .int .i64 t]) := (Blk.new w _ _).alloc _
  have HP1 : Hid (Blk ((w.alloc (.cells #[.slice kA D.length kc, .int .i64 f, .int .i64 t] keyT)).alloc (.cells #[.int .i64 0, .slice none 0 0, .int .i64 0, .int .i64 0, .int .i64 0] tmT)) (w.heap.size + 1) tmT #[.int .i64 0, .slice none 0 0, .int .i64 0, .int .i64 0, .int .i64 0]) := by
    have h9 := Blk.new (w.alloc (.cells #[.slice kA D.length kc, .int .i64 f, .int .i64 t] keyT)) tmT #[.int .i64 0, .slice none 0 0, .int .i64 0, .int .i64 0, .int .i64 0]
    simpa [Hid] using h9
  change Code.wp _ _ _ _ ((w.alloc (.cells #[.slice kA D.length kc, .int .i64 f, .int .i64 t] keyT)).alloc (.cells #[.int .i64 0, .slice none 0 0, .int .i64 0, .int .i64 0, .int .i64 0] tmT))
  generalize (w.alloc (.cells #[.slice kA D.length kc, .int .i64 f, .int .i64 t] keyT)).alloc (.cells #[.int .i64 0, .slice none 0 0, .int .i64 0, .int .i64 0, .int .i64 0] tmT) = w1 at *
  obtain ⟨kb, hkb⟩ : ∃ kb, kb = w.heap.size := ⟨_, rfl⟩
  obtain ⟨pb, hpb⟩ : ∃ pb, pb = w.heap.size + 1 := ⟨_, rfl⟩
  have HPB : Hid (w.heap.size ≤ pb) := by show _ ≤ _; omega
  rw [← hpb] at HP1 ⊢
  rw [← hkb] at HK1 ⊢
  clear hkb hpb c0 t0 t1 hlt htl
  have HH1 := hide (HH.out.below HB1.out)
  have HT1 := hide (HT.out.below HB1.out)
  have HS1 := hide (HS.out.below (HB1.out.mono hB))
  obtain ⟨c0, t0, t1, hlt, htl, _⟩ := HH1.out.open
  have hk1 := HK1.out.lt
  have hp1 := HP1.out.lt
  have k0 : w1.cell? ⟨kb, 0, none⟩ = some (.slice kA D.length kc) := HK1.out.cell 0
  have k1 : w1.cell? ⟨kb, 1, none⟩ = some (.int .i64 f) := HK1.out.cell 1
  have k2 : w1.cell? ⟨kb, 2, none⟩ = some (.int .i64 t) := HK1.out.cell 2
  have y1 := Aft.cell c0 hlt
  have y3 := Aft.cell t1 htl
  have z0 := Aft.cell k0 hk1
  have z1 := Aft.cell k1 hk1
  have z2 := Aft.cell k2 hk1
  have HNM : Hid (∀ X : World, Below w1.heap.size w1 X → Calls Try.prog 32 #[.agg #[.slice kA D.length kc, .int .i64 f, .int .i64 t], .int .i64 x] X fun e w' => e = .returned (.agg #[.string (strOfNums D), .int .i64 f, .int .i64 t, .int .i64 x]) ∧ Below X.heap.size X w') := fun X hX =>
    nameOf_any _ D D.length B f t x X (HS1.out.below (hX.mono (Nat.le_trans hB HB1.out.size))) rfl (Nat.le_trans hB (Nat.le_trans HB1.out.size hX.size))
  cases hlk : lk M ⟨strOfNums D, f, t, x⟩ with
  | none =>
    have yl : ∀ p : Aft w1, (Instr.lookup placeT (.map (some mb)) (.agg #[.string (strOfNums D), .int .i64 f, .int .i64 t, .int .i64 x]) true).run Try.prog p.w' = .ok (.tuple #[.int .i64 0, .bool false]) p.w' := by
      intro p
      have h9 := place_look p.w' mb M (HT1.out.map.below p.h HT1.out.map.lt) ⟨strOfNums D, f, t, x⟩
      rw [hlk] at h9
      exact h9
    have HNO : Hid ((⟨strOfNums D, f, t, x⟩ : Nm) ∉ L.map TV.nm) := by
      intro hm
      obtain ⟨y, hy, hn⟩ := List.mem_map.1 hm
      obtain ⟨i, hi, he⟩ := List.getElem_of_mem hy
      have := (HG.out.lk ⟨strOfNums D, f, t, x⟩ i).2 ⟨i, hi, rfl, by rw [gt_of hi, he]; exact hn⟩
      rw [hlk] at this
      cases this
    clear hlk c0 t0 t1 k0 k1 k2
    refine wp_region_aft (by kernel_rfl) (by kernel_rfl) ?_
    repeat (go_big_quiet_step (first
      | (go_at_call 32; with_reducible exact calls_aft (HNM.out _ (Aft.h _)))))
    refine wpQuiet_nil ?_
    intro w9 hb9
    have HB9 := hide (HB1.out.trans (hb9.mono HB1.out.size))
    have HP9 := hide (HP1.out.below hb9 hp1)
    clear hb9 y1 y3 yl z0 z1 z2 hlt htl hk1 hp1 HNM
    have q0 : w9.cell? ⟨pb, 0, none⟩ = some (.int .i64 0) := HP9.out.cell 0
    have q1 : w9.cell? ⟨pb, 1, none⟩ = some (.slice none 0 0) := HP9.out.cell 1
    have q2 : w9.cell? ⟨pb, 2, none⟩ = some (.int .i64 0) := HP9.out.cell 2
    have q3 : w9.cell? ⟨pb, 3, none⟩ = some (.int .i64 0) := HP9.out.cell 3
    have q4 : w9.cell? ⟨pb, 4, none⟩ = some (.int .i64 0) := HP9.out.cell 4
    have y0 := HP9.out.frozen 0
    have y1 := HP9.out.frozen 1
    have y2 := HP9.out.frozen 2
    have y3 := HP9.out.frozen 3
    have y4 := HP9.out.frozen 4
    have hlp := HP9.out.lt
    go_wp2_with fail
    have HR9 : Hid (Blk (put5 w9 ⟨pb, 0, none⟩ ⟨0, .slice none 0 0, [], 0, 0, 0⟩) pb tmT #[.int .i64 0, .slice none 0 0, .int .i64 0, .int .i64 0, .int .i64 0] ∧ Below w.heap.size w (put5 w9 ⟨pb, 0, none⟩ ⟨0, .slice none 0 0, [], 0, 0, 0⟩)) := by
      refine ⟨?_, (put5_fr (S := fun j => w.heap.size ≤ j) (Fr.of_below HB9.out) HPB.out _).below (Nat.le_refl _) (fun k hk h => by omega)⟩
      unfold put5
      simp only [Nat.zero_add]
      exact ((((HP9.out.put 0 _).put 1 _).put 2 _).put 3 _).put 4 _
    change bodyPost _ _ _ _ _ (put5 w9 ⟨pb, 0, none⟩ ⟨0, .slice none 0 0, [], 0, 0, 0⟩)
    generalize put5 w9 ⟨pb, 0, none⟩ ⟨0, .slice none 0 0, [], 0, 0, 0⟩ = w8 at *
    have c0 : w8.cell? ⟨pb, 0, none⟩ = some (.int .i64 0) := HR9.out.1.cell 0
    have c1 : w8.cell? ⟨pb, 1, none⟩ = some (.slice none 0 0) := HR9.out.1.cell 1
    have c2 : w8.cell? ⟨pb, 2, none⟩ = some (.int .i64 0) := HR9.out.1.cell 2
    have c3 : w8.cell? ⟨pb, 3, none⟩ = some (.int .i64 0) := HR9.out.1.cell 3
    have c4 : w8.cell? ⟨pb, 4, none⟩ = some (.int .i64 0) := HR9.out.1.cell 4
    have hres : Try.f13.results = #[.cell 6 tmT, .tmp 7] := by kernel_rfl
    refine bodyPost_ret (v := .tuple #[.agg #[.int .i64 0, .slice none 0 0, .int .i64 0, .int .i64 0, .int .i64 0], .bool false]) ?_ rfl (.inl ⟨HNO.out, rfl, HR9.out.2⟩)
    simp [results, hres, go_sem, c0, c1, c2, c3, c4]
  | some v =>
    obtain ⟨i, hi, rfl, hnm⟩ := (HG.out.lk _ _).1 hlk
    have yl : ∀ p : Aft w1, (Instr.lookup placeT (.map (some mb)) (.agg #[.string (strOfNums D), .int .i64 f, .int .i64 t, .int .i64 x]) true).run Try.prog p.w' = .ok (.tuple #[.int .i64 i, .bool true]) p.w' := by
      intro p
      have h9 := place_look p.w' mb M (HT1.out.map.below p.h HT1.out.map.lt) ⟨strOfNums D, f, t, x⟩
      rw [hlk] at h9
      exact h9
    have HI := hide hi
    have HNMI := hide hnm
    have HNB : Hid (∀ j, HBk tb mb (.slice A L.length c) j → j < w.heap.size) := by
      intro j hj
      rcases hj with h9 | h9 | h9
      · rw [h9]; exact HT.out.blk.lt
      · rw [h9]; exact HT.out.map.lt
      · exact (HT.out.own.lt j h9).2
    have HNH : Hid (¬ HBk tb mb (.slice A L.length c) hb) := by
      rintro (h9 | h9 | h9)
      · exact HH.out.blk.apart HT.out.blk (by decide) h9
      · exact HT.out.map.ne_blk HH.out.blk h9.symm
      · exact HT.out.own.ne HH.out.blk (by decide) h9
    clear hlk k0 k1 k2 hi hnm
    refine wp_region_aft (by kernel_rfl) (by kernel_rfl) ?_
    repeat (go_big_quiet_step (first
      | (go_at_call 32; with_reducible exact calls_aft (HNM.out _ (Aft.h _)))))
    refine wpQuiet_nil ?_
    intro w9 hb9
    have HB9 := hide (HB1.out.trans (hb9.mono HB1.out.size))
    have HP9 := hide (HP1.out.below hb9 hp1)
    have HH9 := hide (HH1.out.below hb9)
    clear hb9 y1 y3 yl z0 z1 z2 c0 t0 t1 hlt htl hk1 hp1 HNM
    obtain ⟨c0, t0, t1, hlt, htl, _⟩ := HH9.out.open
    have ht1 : ∀ (u : Value) (W : World), (Instr.typeAssert (.iface tmT u) 20 tmT false).run Try.prog W = .ok u W := tassert
    have hlp := HP9.out.lt
    go_wp2_with fail
    refine (hremove_any w9 base tb mb _ L i HH9.out.hp HI.out).mono ?_
    obtain ⟨y, hy⟩ : ∃ y, y = gt L i := ⟨_, rfl⟩
    have HY := hide hy
    rw [← hy]
    clear hy
    rintro e w2 ⟨rfl, lv', L', hp2, hk2, hpm, hf2, hn2⟩
    have hpn : ¬ HBk tb mb (.slice A L.length c) pb := fun h9 => by have := HNB.out pb h9; have := HPB.out; omega
    have HP2 := hide (hf2.blk HP9.out hpn)
    have HL2 : Hid (lv'.ownBlock ≠ some pb) := by
      intro h9
      rcases hn2 pb h9 with h8 | h8
      · exact hpn (.inr (.inr h8))
      · omega
    have HS2 : Hid (HpS w2 base hb tb mb lv' L') := ⟨hf2.blk HH9.out.blk HNH.out, hp2, HH9.out.bh⟩
    have HF2 : Hid (Fr (HBk tb mb (.slice A L.length c)) w w2) := (Fr.of_below HB9.out : Fr (HBk tb mb (.slice A L.length c)) w w9).trans hf2 (fun _ _ h => h)
    have HN2 : Hid (NewB w (.slice A L.length c) lv') := fun g hg => (hn2 g hg).imp id (fun h9 => Nat.le_trans HB9.out.size h9)
    have HK2 := hide hk2
    have HPM := hide hpm
    clear hp2 hk2 hpm hf2 hn2 hpn c0 t0 t1 hlt htl hlp
    obtain ⟨yA, yc, hyv, _⟩ := HK2.out.1.sl.form
    have HYM : Hid (y ∈ L) := by show y ∈ L; rw [HY.out, gt_of HI.out]; exact List.getElem_mem _
    have HYN : Hid (y.nm = ⟨strOfNums D, f, t, x⟩) := by show _ = _; rw [HY.out]; exact HNMI.out
    clear HY HNMI
    obtain ⟨ya, yk, yb, yf, yt, yw⟩ := y
    simp only at hyv
    subst hyv
    unfold TV.cells
    simp only
    have q0 : w2.cell? ⟨pb, 0, none⟩ = some (.int .i64 0) := HP2.out.cell 0
    have q1 : w2.cell? ⟨pb, 1, none⟩ = some (.slice none 0 0) := HP2.out.cell 1
    have q2 : w2.cell? ⟨pb, 2, none⟩ = some (.int .i64 0) := HP2.out.cell 2
    have q3 : w2.cell? ⟨pb, 3, none⟩ = some (.int .i64 0) := HP2.out.cell 3
    have q4 : w2.cell? ⟨pb, 4, none⟩ = some (.int .i64 0) := HP2.out.cell 4
    have y0 := HP2.out.frozen 0
    have y1 := HP2.out.frozen 1
    have y2 := HP2.out.frozen 2
    have y3 := HP2.out.frozen 3
    have y4 := HP2.out.frozen 4
    have hlp := HP2.out.lt
    go_wp2_with fail
    have HYO : Hid ((Value.slice yA yb.length yc).ownBlock ≠ some pb) := HK2.out.1.ne HP2.out (by decide)
    have HR9 : Hid (Blk (put5 w2 ⟨pb, 0, none⟩ ⟨ya, .slice yA yb.length yc, yb, yf, yt, yw⟩) pb tmT #[.int .i64 ya, .slice yA yb.length yc, .int .i64 yf, .int .i64 yt, .int .i64 yw] ∧
        Fr (HBk tb mb (.slice A L.length c)) w (put5 w2 ⟨pb, 0, none⟩ ⟨ya, .slice yA yb.length yc, yb, yf, yt, yw⟩) ∧
        KeyO (put5 w2 ⟨pb, 0, none⟩ ⟨ya, .slice yA yb.length yc, yb, yf, yt, yw⟩) base ⟨ya, .slice yA yb.length yc, yb, yf, yt, yw⟩ ∧
        HpS (put5 w2 ⟨pb, 0, none⟩ ⟨ya, .slice yA yb.length yc, yb, yf, yt, yw⟩) base hb tb mb lv' L') := by
      refine ⟨?_, ?_, ⟨?_, HK2.out.2⟩, HS2.out.put5 HP2.out HL2.out _⟩
      · unfold put5
        simp only [Nat.zero_add]
        exact ((((HP2.out.put 0 _).put 1 _).put 2 _).put 3 _).put 4 _
      · unfold put5
        exact ((((HF2.out.put (p := ⟨pb, 0, none⟩) (.inr HPB.out) _).put (p := ⟨pb, 0 + 1, none⟩) (.inr HPB.out) _).put (p := ⟨pb, 0 + 2, none⟩) (.inr HPB.out) _).put (p := ⟨pb, 0 + 3, none⟩) (.inr HPB.out) _).put (p := ⟨pb, 0 + 4, none⟩) (.inr HPB.out) _
      · unfold put5
        exact ((((HK2.out.1.put (p := ⟨pb, 0, none⟩) HYO.out _).put (p := ⟨pb, 0 + 1, none⟩) HYO.out _).put (p := ⟨pb, 0 + 2, none⟩) HYO.out _).put (p := ⟨pb, 0 + 3, none⟩) HYO.out _).put (p := ⟨pb, 0 + 4, none⟩) HYO.out _
    change bodyPost _ _ _ _ _ (put5 w2 ⟨pb, 0, none⟩ ⟨ya, .slice yA yb.length yc, yb, yf, yt, yw⟩)
    generalize put5 w2 ⟨pb, 0, none⟩ ⟨ya, .slice yA yb.length yc, yb, yf, yt, yw⟩ = w8 at *
    have c0 : w8.cell? ⟨pb, 0, none⟩ = some (.int .i64 ya) := HR9.out.1.cell 0
    have c1 : w8.cell? ⟨pb, 1, none⟩ = some (.slice yA yb.length yc) := HR9.out.1.cell 1
    have c2 : w8.cell? ⟨pb, 2, none⟩ = some (.int .i64 yf) := HR9.out.1.cell 2
    have c3 : w8.cell? ⟨pb, 3, none⟩ = some (.int .i64 yt) := HR9.out.1.cell 3
    have c4 : w8.cell? ⟨pb, 4, none⟩ = some (.int .i64 yw) := HR9.out.1.cell 4
    have hres : Try.f13.results = #[.cell 6 tmT, .tmp 7] := by kernel_rfl
    refine bodyPost_ret (v := .tuple #[.agg #[.int .i64 ya, .slice yA yb.length yc, .int .i64 yf, .int .i64 yt, .int .i64 yw], .bool true]) ?_ rfl (.inr ⟨⟨ya, .slice yA yb.length yc, yb, yf, yt, yw⟩, lv', L', HYM.out, HYN.out, rfl, HR9.out.2.2.2, HR9.out.2.2.1, HPM.out, HR9.out.2.1, HN2.out⟩)
    simp [results, hres, go_sem, c0, c1, c2, c3, c4]

end Go.Proofs.Ytogelnljkdcajaa

namespace Go.Proofs.Ytogelnljkdcajaa
open Go.RowKit Go.Sort
set_option linter.unusedVariables false
set_option linter.unusedSimpArgs false

/-- a timer, without where its key lies -/
structure TD where
  a : Int
  b : List Int
  f : Int
  t : Int
  w : Int
deriving DecidableEq
def TV.d (x : TV) : TD := ⟨x.a, x.kb, x.f, x.t, x.w⟩
def TD.nm (x : TD) : Nm := ⟨strOfNums x.b, x.f, x.t, x.w⟩
theorem TV.d_nm (x : TV) : x.d.nm = x.nm := rfl
def setD (l : List TD) (x : TD) : List TD := l.filter (fun y => decide (y.nm ≠ x.nm)) ++ [x]
def canD (l : List TD) (a : Nm) : List TD := l.filter (fun y => decide (y.nm ≠ a))
theorem canD_none {L : List TV} {a : Nm} (h : a ∉ L.map TV.nm) : canD (L.map TV.d) a = L.map TV.d := by
  refine List.filter_eq_self.2 fun y hy => ?_
  obtain ⟨x, hx, rfl⟩ := List.mem_map.1 hy
  refine decide_eq_true fun e => h ?_
  rw [← e, TV.d_nm]
  exact List.mem_map_of_mem hx
theorem canD_some {L L1 : List TV} {y : TV} (h : L.Perm (L1 ++ [y])) (hn : (L.map TV.nm).Nodup) : (L1.map TV.d).Perm (canD (L.map TV.d) y.nm) ∧ y.nm ∉ L1.map TV.nm := by
  have hn2 : ((L1 ++ [y]).map TV.nm).Nodup := (h.map TV.nm).nodup_iff.1 hn
  rw [List.map_append, List.nodup_append] at hn2
  have hni : y.nm ∉ L1.map TV.nm := fun hm => hn2.2.2 _ hm y.nm (by simp) rfl
  refine ⟨?_, hni⟩
  have h2 : (canD (L.map TV.d) y.nm).Perm (canD ((L1 ++ [y]).map TV.d) y.nm) := (h.map TV.d).filter _
  have h3 : canD ((L1 ++ [y]).map TV.d) y.nm = L1.map TV.d := by
    have h4 := canD_none hni
    unfold canD at h4 ⊢
    rw [List.map_append, List.filter_append, h4]
    simp [TV.d_nm]
  rw [h3] at h2
  exact h2.symm

/-- whether there was one or not -/
theorem CanPost.both {w w' : World} {base hb tb mb : Nat} {lv : Value} {L : List TV} {a : Nm} {e : Ending} (h : CanPost w base hb tb mb lv L a e w') (hh : HpS w base hb tb mb lv L) :
    ∃ u lv' L', e = .returned u ∧ HpS w' base hb tb mb lv' L' ∧ (L'.map TV.d).Perm (canD (L.map TV.d) a) ∧ a ∉ L'.map TV.nm ∧ Fr (HBk tb mb lv) w w' ∧ NewB w lv lv' ∧ L'.length ≤ L.length ∧ (∀ y ∈ L', y ∈ L) := by
  rcases h with ⟨hn, he, hb⟩ | ⟨x, lv', L', hx, hnm, he, hh', hk, hp, hf, hnb⟩
  · exact ⟨_, lv, L, he, hh.below hb, by rw [canD_none hn], hn, Fr.of_below hb, fun g hg => .inl hg, Nat.le_refl _, fun y hy => hy⟩
  · obtain ⟨M, _, hg⟩ := hh.hp.st
    obtain ⟨h1, h2⟩ := canD_some hp hg.nd
    rw [hnm] at h1 h2
    refine ⟨_, lv', L', he, hh', h1, h2, hf, hnb, ?_, fun z hz => hp.mem_iff.2 (List.mem_append_left _ hz)⟩
    have := hp.length_eq
    simp at this
    omega

end Go.Proofs.Ytogelnljkdcajaa

namespace Go.Proofs.Ytogelnljkdcajaa
open Go.RowKit Go.Sort
set_option linter.unusedVariables false
set_option linter.unusedSimpArgs false

/-- each timer was there, or its key is new -/
def NK (w : World) (L L' : List TV) : Prop := ∀ y ∈ L', y ∈ L ∨ ∀ g, y.kv.ownBlock = some g → w.heap.size ≤ g
def SetPost (w : World) (base hb tb mb : Nat) (lv : Value) (L D : List TV) (e : Ending) (w' : World) : Prop :=
  (¬ AllRight D ∧ e = .returned (.int .i64 160) ∧ Below w.heap.size w w') ∨
  (AllRight D ∧ e = .returned (.int .i64 0) ∧ ∃ lv' L', HpS w' base hb tb mb lv' L' ∧ (L'.map TV.d).Perm ((D.map TV.d).foldl setD (L.map TV.d)) ∧ Fr (HBk tb mb lv) w w' ∧ NewB w lv lv' ∧ NK w L L')
structure SetI (w wz : World) (base hb tb mb : Nat) (lv : Value) (L D : List TV) (k : Nat) (lv1 : Value) (L1 : List TV) : Prop where
  hp : HpS wz base hb tb mb lv1 L1
  pm : (L1.map TV.d).Perm (((D.take k).map TV.d).foldl setD (L.map TV.d))
  fr : Fr (HBk tb mb lv) w wz
  nb : NewB w lv lv1
  ln : L1.length ≤ L.length + k
  nk : NK w L L1

theorem HpS.lts {w : World} {base hb tb mb : Nat} {lv : Value} {L : List TV} (h : HpS w base hb tb mb lv L) : ∀ j, HBk tb mb lv j → j < w.heap.size := by
  obtain ⟨M, ht, hg⟩ := h.hp.st
  intro j hj
  rcases hj with h9 | h9 | h9
  · rw [h9]; exact ht.blk.lt
  · rw [h9]; exact ht.map.lt
  · exact (ht.own.lt j h9).2
theorem fr_nb {w w1 w2 : World} {tb mb : Nat} {lv lv1 : Value} (h : Fr (HBk tb mb lv) w w1) (k : Fr (HBk tb mb lv1) w1 w2) (hn : NewB w lv lv1) : Fr (HBk tb mb lv) w w2 :=
  h.trans k (fun j hj h9 => by
    rcases h9 with h9 | h9 | h9
    · exact .inl h9
    · exact .inr (.inl h9)
    · rcases hn j h9 with h8 | h8
      · exact .inr (.inr h8)
      · omega)
theorem nb_nb {w w1 : World} {lv lv1 lv2 : Value} (h : NewB w lv lv1) (k : NewB w1 lv1 lv2) (hz : w.heap.size ≤ w1.heap.size) : NewB w lv lv2 := fun g hg => by
  rcases k g hg with h9 | h9
  · exact h g h9
  · exact .inr (Nat.le_trans hz h9)

set_option maxRecDepth 100000 in
set_option maxHeartbeats 4000000 in
theorem hset_any (w : World) (base hb tb mb : Nat) (lv : Value) (L : List TV) (A : Option Addr) (c n B : Nat) (D : List TV) (h : HpS w base hb tb mb lv L) (hD : D.length = n) (hB : B ≤ w.heap.size)
    (hIn : ∀ X, Fr (HBk tb mb lv) w X → Sl X B (.slice A n c) 5 n (tms D) ∧ ∀ x ∈ D, KeyIn X B x) (hbase : base ≤ w.heap.size) (hL : L.length + n < 100000) :
    Calls Try.prog 9 #[.pointer (some ⟨hb, 0, none⟩), .slice A n c] w (SetPost w base hb tb mb lv L D) := by
  have HC := hide (contains_any (.slice A n c) D n B w (hIn w (Fr.refl _ w)).1 hD hB (hIn w (Fr.refl _ w)).2 (by omega))
  have HH := hide h
  have HIN := hide hIn
  have HD := hide hD
  clear h hIn hD
  by_cases hr : AllRight D
  · have HR := hide hr
    rw [decide_eq_true hr] at HC
    clear hr
    go_enter Try.func9, Try.ntmps9
    go_wp2_with fail
    refine HC.out.mono ?_
    rintro e w1 ⟨rfl, hb1⟩
    have HB1 := hide hb1
    clear hb1 HC
    go_wp2_with fail
    go_loopw [11] (fun i wz => ∃ (k : Nat) (lv1 : Value) (L1 : List TV), i = .int .i64 k ∧ k ≤ n ∧ Hid (SetI w wz base hb tb mb lv L D k lv1 L1)) (fun i _ => n - (intOf i).toNat)
    case atStart => exact ⟨0, lv, L, rfl, Nat.zero_le _, ⟨HH.out.below HB1.out, by simp, Fr.of_below HB1.out, fun g hg => .inl hg, by omega, fun y hy => .inl hy⟩⟩
    case round =>
      obtain ⟨k, lv1, L1, rfl, hk, HI⟩ := hrel
      by_cases hlt : k < n
      · have hkD : k < D.length := by rw [HD.out]; exact hlt
        obtain ⟨hsl, hky⟩ := HIN.out wr HI.out.fr
        obtain ⟨ad, rfl, hab, a0, a1, a2, a3, a4⟩ := tm_at hsl hlt HD.out
        have hzr := HI.out.fr.size
        have hab2 : (ad.add (k * 5)).block < wr.heap.size := by omega
        have hxm := List.getElem_mem hkD
        have HTK : Hid (∀ l, ((D.take (k + 1)).map TV.d).foldl setD l = setD (((D.take k).map TV.d).foldl setD l) D[k].d) := fun l => by
          rw [List.take_succ_eq_append_getElem hkD, List.map_append, List.foldl_append]
          rfl
        obtain ⟨x, hx⟩ : ∃ x, x = D[k] := ⟨_, rfl⟩
        rw [← hx] at hxm HTK a0 a1 a2 a3 a4
        clear hx
        have HXM := hide hxm
        obtain ⟨xA, xc, hkx, hxc⟩ := (hky x hxm).sl.form
        have HKX := hide (hky x hxm)
        clear hxm hky hsl
        obtain ⟨xa, xk, xb, xf, xt, xw⟩ := x
        simp only at hkx hxc a0 a1 a2 a3 a4
        subst hkx
        go_wp2_with fail
        have HP2 : Hid (Blk (wr.alloc (.cells #[.int .i64 xa, .slice xA xb.length xc, .int .i64 xf, .int .i64 xt, .int .i64 xw] tmT)) wr.heap.size tmT #[.int .i64 xa, .slice xA xb.length xc, .int .i64 xf, .int .i64 xt, .int .i64 xw]) := Blk.new wr _ _
        have HB2 : Hid (Below wr.heap.size wr (wr.alloc (.cells #[.int .i64 xa, .slice xA xb.length xc, .int .i64 xf, .int .i64 xt, .int .i64 xw] tmT))) := (Below.refl _ _).alloc (Nat.le_refl _) _
        have HH2 := hide (HI.out.hp.below HB2.out)
        have HF2 : Hid (Fr (HBk tb mb lv) w (wr.alloc (.cells #[.int .i64 xa, .slice xA xb.length xc, .int .i64 xf, .int .i64 xt, .int .i64 xw] tmT))) := HI.out.fr.alloc _
        change Calls _ _ _ (wr.alloc (.cells #[.int .i64 xa, .slice xA xb.length xc, .int .i64 xf, .int .i64 xt, .int .i64 xw] tmT)) _
        have HPL : Hid (¬ HBk tb mb lv1 wr.heap.size) := fun h9 => by have := HI.out.hp.lts _ h9; omega
        generalize wr.alloc (.cells #[.int .i64 xa, .slice xA xb.length xc, .int .i64 xf, .int .i64 xt, .int .i64 xw] tmT) = w2 at *
        obtain ⟨pb, hpb⟩ : ∃ pb, pb = wr.heap.size := ⟨_, rfl⟩
        rw [← hpb] at HP2 HPL ⊢
        have hB2 : B ≤ w2.heap.size := Nat.le_trans hB HF2.out.size
        refine (cancel_any w2 base hb tb mb lv1 L1 xA xc B xb xf xt xw HH2.out ((HIN.out w2 HF2.out).2 _ HXM.out).sl hB2).mono ?_
        rintro e w3 hcan
        obtain ⟨u3, lv3, L3, rfl, hh3, hp3, hn3, hf3, hnb3, hl3, hsub3⟩ := hcan.both HH2.out
        have HSUB3 := hide hsub3
        clear hsub3
        have HH3 := hide hh3
        have HPM3 := hide hp3
        have HN3 := hide hn3
        have HF3 := hide (fr_nb HF2.out hf3 HI.out.nb)
        have HNB3 := hide (nb_nb HI.out.nb hnb3 HF2.out.size)
        have HL3 := hide hl3
        have HP3 := hide (hf3.blk HP2.out HPL.out)
        have HLP : Hid (lv3.ownBlock ≠ some pb) := by
          intro h9
          rcases hnb3 pb h9 with h8 | h8
          · exact HPL.out (.inr (.inr h8))
          · have := HP2.out.lt; omega
        clear hcan hh3 hp3 hn3 hf3 hnb3 hl3 a0 a1 a2 a3 a4 hab hab2 hzr hpb
        obtain ⟨c0, t0, t1, hlt3, htl3, _⟩ := HH3.out.open
        have p0 : w3.cell? ⟨pb, 0, none⟩ = some (.int .i64 xa) := HP3.out.cell 0
        have p1 : w3.cell? ⟨pb, 1, none⟩ = some (.slice xA xb.length xc) := HP3.out.cell 1
        have p2 : w3.cell? ⟨pb, 2, none⟩ = some (.int .i64 xf) := HP3.out.cell 2
        have p3 : w3.cell? ⟨pb, 3, none⟩ = some (.int .i64 xt) := HP3.out.cell 3
        have p4 : w3.cell? ⟨pb, 4, none⟩ = some (.int .i64 xw) := HP3.out.cell 4
        have hpl3 := HP3.out.lt
        have HNH : Hid (¬ HBk tb mb lv3 hb ∧ ¬ HBk tb mb lv3 pb) := by
          obtain ⟨M, ht, hg⟩ := HH3.out.hp.st
          refine ⟨?_, ?_⟩
          · rintro (h9 | h9 | h9)
            · exact HH3.out.blk.apart ht.blk (by decide) h9
            · exact ht.map.ne_blk HH3.out.blk h9.symm
            · exact ht.own.ne HH3.out.blk (by decide) h9
          · rintro (h9 | h9 | h9)
            · exact HP3.out.apart ht.blk (by decide) h9
            · exact ht.map.ne_blk HP3.out h9.symm
            · exact HLP.out h9
        have HCS : Hid (∀ X : World, Fr (HBk tb mb lv3) w3 X → X.cell? ⟨hb, 0, none⟩ = some (.pointer (some ⟨tb, 0, none⟩)) ∧ X.cell? ⟨pb, 0, none⟩ = some (.int .i64 xa) ∧ X.cell? ⟨pb, 1, none⟩ = some (.slice xA xb.length xc) ∧ X.cell? ⟨pb, 2, none⟩ = some (.int .i64 xf) ∧ X.cell? ⟨pb, 3, none⟩ = some (.int .i64 xt) ∧ X.cell? ⟨pb, 4, none⟩ = some (.int .i64 xw)) := by
          intro X hX
          have k1 := hX.blk HH3.out.blk HNH.out.1
          have k2 := hX.blk HP3.out HNH.out.2
          exact ⟨k1.cell 0, k2.cell 0, k2.cell 1, k2.cell 2, k2.cell 3, k2.cell 4⟩
        have HCP : Hid (∀ X : World, Below w3.heap.size w3 X → Calls Try.prog 29 #[.agg #[.int .i64 xa, .slice xA xb.length xc, .int .i64 xf, .int .i64 xt, .int .i64 xw]] X fun e w' => ∃ uA uc, e = .returned (.agg #[.int .i64 xa, .slice uA xb.length uc, .int .i64 xf, .int .i64 xt, .int .i64 xw]) ∧ Below w3.heap.size w3 w' ∧ KeyO w' base ⟨xa, .slice uA xb.length uc, xb, xf, xt, xw⟩ ∧ ∀ g, (Value.slice uA xb.length uc).ownBlock = some g → w.heap.size ≤ g) := by
          intro X hX
          have hky := (HIN.out w3 HF3.out).2 _ HXM.out
          have hz := HF3.out.size
          have hz2 := hX.size
          refine (copied_any xa xf xt xw (.slice xA xb.length xc) xb xb.length B X (hky.sl.below (hX.mono (by omega))) rfl (Nat.le_trans (HR.out _ HXM.out).2.2.2 (by decide)) (by omega)).mono ?_
          rintro e w' ⟨u, rfl, ho, hb⟩
          obtain ⟨uA, uc, rfl, _⟩ := ho.sl.form
          exact ⟨uA, uc, rfl, hX.trans (hb.mono hz2), ⟨ho.lower (by omega), hky.b8, (HR.out _ HXM.out).2.2.2⟩, fun g hg => by have := (ho.lt g hg).1; omega⟩
        have HPU : Hid (∀ (X : World) (uA : Option Addr) (uc : Nat), Below w3.heap.size w3 X → (KeyO X base ⟨xa, .slice uA xb.length uc, xb, xf, xt, xw⟩ ∧ ∀ g, (Value.slice uA xb.length uc).ownBlock = some g → w.heap.size ≤ g) → Calls Try.prog 28 #[.iface 65 (.pointer (some ⟨tb, 0, none⟩)), .iface tmT (.agg #[.int .i64 xa, .slice uA xb.length uc, .int .i64 xf, .int .i64 xt, .int .i64 xw])] X fun e w' => e = .returned (.tuple #[]) ∧ Fr (HBk tb mb lv3) w3 w' ∧ ∃ lv8 L8, SetI w w' base hb tb mb lv L D (k + 1) lv8 L8) := by
          intro X uA uc hX hk
          have hz := HF3.out.size
          have hz2 := hX.size
          have h1 := HL3.out
          have h2 := HI.out.ln
          refine (hpush_any X base tb mb lv3 L3 ⟨xa, .slice uA xb.length uc, xb, xf, xt, xw⟩ (HH3.out.hp.below hX) hk.1 (by omega) (by omega) HN3.out).mono ?_
          rintro e w' ⟨rfl, lv8, L8, hp8, hpm8, hf8, hnb8⟩
          have hf9 : Fr (HBk tb mb lv3) w3 w' := (Fr.of_below hX : Fr (HBk tb mb lv3) w3 X).trans hf8 (fun _ _ h => h)
          refine ⟨rfl, hf9, lv8, L8, ⟨⟨hf9.blk HH3.out.blk HNH.out.1, hp8, HH3.out.bh⟩, ?_, fr_nb HF3.out hf9 HNB3.out, nb_nb HNB3.out (fun g hg => (hnb8 g hg).imp id (fun h => Nat.le_trans hz2 h)) hz, ?_, ?_⟩⟩
          · rw [HTK.out]
            refine (hpm8.map TV.d).trans ?_
            rw [List.map_append]
            unfold setD
            exact ((HPM3.out.trans (HI.out.pm.filter _)).append_right _)
          · have h3 := hpm8.length_eq
            simp at h3
            omega
          · intro y hy
            rcases List.mem_append.1 (hpm8.mem_iff.1 hy) with h9 | h9
            · exact HI.out.nk y (HSUB3.out y h9)
            · simp only [List.mem_singleton] at h9
              subst h9
              exact .inr hk.2
        clear t0 t1
        go_wp2_with fail
        go_region_held3 (fun w' : World => w'.cell? ⟨hb, 0, none⟩ = some (.pointer (some ⟨tb, 0, none⟩)) ∧ w'.cell? ⟨pb, 0, none⟩ = some (.int .i64 xa) ∧ w'.cell? ⟨pb, 1, none⟩ = some (.slice xA xb.length xc) ∧ w'.cell? ⟨pb, 2, none⟩ = some (.int .i64 xf) ∧ w'.cell? ⟨pb, 3, none⟩ = some (.int .i64 xt) ∧ w'.cell? ⟨pb, 4, none⟩ = some (.int .i64 xw)) (first | exact HCS.out _ ((Fr.refl _ w3).drewN 1) | exact HCS.out _ (Fr.of_below hk7) | exact HCS.out _ hf8) (first
          | (go_at_call 29; refine (HCP.out _ ((Below.refl _ _).drewN 1)).mono ?_; rintro e w7 ⟨uA, uc, rfl, hk7, hx7⟩)
          | (go_at_call 28; refine (HPU.out _ uA uc hk7 hx7).mono ?_; rintro e w8 ⟨rfl, hf8, lv8, L8, hi8⟩))
        all_goals
          have HI8 := hide hi8
          clear hi8 hf8 hk7 hx7 c0 p0 p1 p2 p3 p4
          go_wp2_with fail
          go_roundw
          case rel => exact ⟨k + 1, lv8, L8, by simp, by omega, HI8⟩
          case measure => simp [intOf]; omega
      · have HE : Hid (D.take k = D) := List.take_of_length_le (by rw [HD.out]; omega)
        go_wp2_with fail
        go_ret
        refine .inr ⟨HR.out, rfl, lv1, L1, HI.out.hp, ?_, HI.out.fr, HI.out.nb, HI.out.nk⟩
        have h9 := HI.out.pm
        rw [HE.out] at h9
        exact h9
  · have HR := hide hr
    rw [decide_eq_false hr] at HC
    clear hr
    go_enter Try.func9, Try.ntmps9
    go_wp2_with fail
    refine HC.out.mono ?_
    rintro e w1 ⟨rfl, hb1⟩
    have HB1 := hide hb1
    clear hb1 HC
    go_wp2_with fail
    go_ret
    exact .inl ⟨HR.out, rfl, HB1.out⟩

end Go.Proofs.Ytogelnljkdcajaa
