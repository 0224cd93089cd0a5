/- The tree of timers: nameOf, copied; Len, Less, note, Swap, Push, Pop. / The tree of timers: Len, note, Swap. -/
import Derived.Test.YtogelnljkdcajaaQTimersPlays02
import Derived.BigRegion
import Derived.RegionTactic

namespace Go.Proofs.Ytogelnljkdcajaa
open Go.RowKit Go.Sort
set_option linter.unusedVariables false
set_option linter.unusedSimpArgs false

def TV.nm (x : TV) : Nm := ⟨strOfNums x.kb, x.f, x.t, x.w⟩
abbrev keyT : Nat := 35
abbrev treeT : Nat := 68

set_option maxHeartbeats 2000000 in
theorem nameOf_any (v : Value) (D : List Int) (n B : Nat) (f t x : Int) (w : World) (hs : Sl w B v 1 n (bys D)) (hD : D.length = n) (hB : B ≤ w.heap.size) :
    Calls Try.prog 32 #[.agg #[v, .int .i64 f, .int .i64 t], .int .i64 x] w fun e w' => e = .returned (nmV ⟨strOfNums D, f, t, x⟩) ∧ Below w.heap.size w w' := by
  obtain ⟨A, c, rfl, hc⟩ := hs.form
  have HST : Hid (∀ X : World, Below w.heap.size w X → (convert 22 9 (.slice A n c)).run Try.prog X = .ok (.string (strOfNums D)) X) := fun X h => bys_str _ D n B X (hs.below (h.mono hB)) hD
  have hst := HST.out _ (((Below.refl w.heap.size w).alloc (Nat.le_refl _) (.cells #[.slice A n c, .int .i64 f, .int .i64 t] keyT)).alloc (by simp) (.cells #[.string ⟨#[]⟩, .int .i64 0, .int .i64 0, .int .i64 0] nmT))
  clear hs hD
  go_enter Try.func32, Try.ntmps32
  go_wp2_with fail
  have hB1 : Below w.heap.size w ((w.alloc (.cells #[.slice A n c, .int .i64 f, .int .i64 t] keyT)).alloc (.cells #[.string (strOfNums D), .int .i64 f, .int .i64 t, .int .i64 x] nmT)) := ((Below.refl w.heap.size w).alloc (Nat.le_refl _) _).alloc (by simp) _
  have hK : Blk ((w.alloc (.cells #[.slice A n c, .int .i64 f, .int .i64 t] keyT)).alloc (.cells #[.string (strOfNums D), .int .i64 f, .int .i64 t, .int .i64 x] nmT)) (w.heap.size + 1) nmT #[.string (strOfNums D), .int .i64 f, .int .i64 t, .int .i64 x] := by
    have h9 := Blk.new (w.alloc (.cells #[.slice A n c, .int .i64 f, .int .i64 t] keyT)) nmT #[.string (strOfNums D), .int .i64 f, .int .i64 t, .int .i64 x]
    simpa using h9
  generalize ((w.alloc (.cells #[.slice A n c, .int .i64 f, .int .i64 t] keyT)).alloc (.cells #[.string (strOfNums D), .int .i64 f, .int .i64 t, .int .i64 x] nmT)) = w5 at *
  have c0 : w5.cell? ⟨w.heap.size + 1, 0, none⟩ = some (.string (strOfNums D)) := hK.cell 0
  have c1 : w5.cell? ⟨w.heap.size + 1, 1, none⟩ = some (.int .i64 f) := hK.cell 1
  have c2 : w5.cell? ⟨w.heap.size + 1, 2, none⟩ = some (.int .i64 t) := hK.cell 2
  have c3 : w5.cell? ⟨w.heap.size + 1, 3, none⟩ = some (.int .i64 x) := hK.cell 3
  have hres : Try.f32.results = #[.cell 4 nmT] := by kernel_rfl
  refine bodyPost_ret (v := nmV ⟨strOfNums D, f, t, x⟩) ?_ rfl ⟨rfl, hB1⟩
  simp [results, hres, go_sem, c0, c1, c2, c3, nmV]

set_option maxHeartbeats 2000000 in
theorem copied_any (a f t x : Int) (v : Value) (D : List Int) (n B : Nat) (w : World) (hs : Sl w B v 1 n (bys D)) (hD : D.length = n) (hn : n ≤ 140737488355328) (hB : B ≤ w.heap.size) :
    Calls Try.prog 29 #[.agg #[.int .i64 a, v, .int .i64 f, .int .i64 t, .int .i64 x]] w fun e w' => ∃ u, e = .returned (.agg #[.int .i64 a, u, .int .i64 f, .int .i64 t, .int .i64 x]) ∧ Own w' w.heap.size bT 1 u n (bys D) ∧ Below w.heap.size w w' := by
  obtain ⟨A, c, rfl, hc⟩ := hs.form
  have HS := hide hs
  have HD := hide hD
  clear hs hD
  go_enter Try.func29, Try.ntmps29
  go_wp2_with fail
  have HP : Hid (Blk ((w.alloc (.cells #[.int .i64 a, .slice A n c, .int .i64 f, .int .i64 t, .int .i64 x] tmT)).alloc (.cells #[.int .i64 0, .slice none 0 0, .int .i64 0, .int .i64 0, .int .i64 0] tmT)) w.heap.size tmT #[.int .i64 a, .slice A n c, .int .i64 f, .int .i64 t, .int .i64 x]) := (Blk.new w _ _).alloc _
  have HQ : Hid (Blk ((w.alloc (.cells #[.int .i64 a, .slice A n c, .int .i64 f, .int .i64 t, .int .i64 x] tmT)).alloc (.cells #[.int .i64 0, .slice none 0 0, .int .i64 0, .int .i64 0, .int .i64 0] tmT)) (w.heap.size + 1) tmT #[.int .i64 0, .slice none 0 0, .int .i64 0, .int .i64 0, .int .i64 0]) := by
    have h9 := Blk.new (w.alloc (.cells #[.int .i64 a, .slice A n c, .int .i64 f, .int .i64 t, .int .i64 x] tmT)) tmT #[.int .i64 0, .slice none 0 0, .int .i64 0, .int .i64 0, .int .i64 0]
    simpa [Hid] using h9
  have HBW : Hid (Below w.heap.size w ((w.alloc (.cells #[.int .i64 a, .slice A n c, .int .i64 f, .int .i64 t, .int .i64 x] tmT)).alloc (.cells #[.int .i64 0, .slice none 0 0, .int .i64 0, .int .i64 0, .int .i64 0] tmT))) := ((Below.refl w.heap.size w).alloc (Nat.le_refl _) _).alloc (by simp) _
  refine (bclone_any _ D n B _ (HS.out.below (HBW.out.mono hB)) HD.out hn (Nat.le_trans hB HBW.out.size)).mono ?_
  generalize (w.alloc (.cells #[.int .i64 a, .slice A n c, .int .i64 f, .int .i64 t, .int .i64 x] tmT)).alloc (.cells #[.int .i64 0, .slice none 0 0, .int .i64 0, .int .i64 0, .int .i64 0] tmT) = w1 at *
  rintro e w2 ⟨u, rfl, ho, hb⟩
  have HO := hide (ho.lower HBW.out.size)
  have HP2 := hide (HP.out.below hb HP.out.lt)
  have HQ2 := hide (HQ.out.below hb HQ.out.lt)
  have HB2 := hide (HBW.out.trans (hb.mono HBW.out.size))
  have HUB : Hid (∀ g, u.ownBlock = some g → w1.heap.size ≤ g) := fun g hg => (ho.lt g hg).1
  have hp1 := HP.out.lt
  have hq1 := HQ.out.lt
  clear ho hb HP HQ HBW
  obtain ⟨uA, uc, rfl, huc⟩ := HO.out.sl.form
  have p0 : w2.cell? ⟨w.heap.size, 0, none⟩ = some (.int .i64 a) := HP2.out.cell 0
  have p1 : w2.cell? ⟨w.heap.size, 1, none⟩ = some (.slice A n c) := HP2.out.cell 1
  have p2 : w2.cell? ⟨w.heap.size, 2, none⟩ = some (.int .i64 f) := HP2.out.cell 2
  have p3 : w2.cell? ⟨w.heap.size, 3, none⟩ = some (.int .i64 t) := HP2.out.cell 3
  have p4 : w2.cell? ⟨w.heap.size, 4, none⟩ = some (.int .i64 x) := HP2.out.cell 4
  have z1 := HP2.out.frozen 1
  have q0 : w2.cell? ⟨w.heap.size + 1, 0, none⟩ = some (.int .i64 0) := HQ2.out.cell 0
  have q1 : w2.cell? ⟨w.heap.size + 1, 1, none⟩ = some (.slice none 0 0) := HQ2.out.cell 1
  have q2 : w2.cell? ⟨w.heap.size + 1, 2, none⟩ = some (.int .i64 0) := HQ2.out.cell 2
  have q3 : w2.cell? ⟨w.heap.size + 1, 3, none⟩ = some (.int .i64 0) := HQ2.out.cell 3
  have q4 : w2.cell? ⟨w.heap.size + 1, 4, none⟩ = some (.int .i64 0) := HQ2.out.cell 4
  have y0 := HQ2.out.frozen 0
  have y1 := HQ2.out.frozen 1
  have y2 := HQ2.out.frozen 2
  have y3 := HQ2.out.frozen 3
  have y4 := HQ2.out.frozen 4
  have hlp := HP2.out.lt
  have hlq := HQ2.out.lt
  go_wp2_with fail
  have hU : ∀ g, (Value.slice uA n uc).ownBlock = some g → g ≠ w.heap.size ∧ g ≠ w.heap.size + 1 := fun g hg => by have := HUB.out g hg; omega
  have hne0 : (Value.slice uA n uc).ownBlock ≠ some w.heap.size := fun h => (hU _ h).1 rfl
  have hne1 : (Value.slice uA n uc).ownBlock ≠ some (w.heap.size + 1) := fun h => (hU _ h).2 rfl
  have HO9 : Own ((((((w2.setCell ⟨w.heap.size, 1, none⟩ (.slice uA n uc)).setCell ⟨w.heap.size + 1, 0, none⟩ (.int .i64 a)).setCell ⟨w.heap.size + 1, 1, none⟩ (.slice uA n uc)).setCell ⟨w.heap.size + 1, 2, none⟩ (.int .i64 f)).setCell ⟨w.heap.size + 1, 3, none⟩ (.int .i64 t)).setCell ⟨w.heap.size + 1, 4, none⟩ (.int .i64 x)) w.heap.size bT 1 (.slice uA n uc) n (bys D) :=
    (((((HO.out.put (p := ⟨w.heap.size, 1, none⟩) hne0 _).put (p := ⟨w.heap.size + 1, 0, none⟩) hne1 _).put (p := ⟨w.heap.size + 1, 1, none⟩) hne1 _).put (p := ⟨w.heap.size + 1, 2, none⟩) hne1 _).put (p := ⟨w.heap.size + 1, 3, none⟩) hne1 _).put (p := ⟨w.heap.size + 1, 4, none⟩) hne1 _
  have HK9 : Blk ((((((w2.setCell ⟨w.heap.size, 1, none⟩ (.slice uA n uc)).setCell ⟨w.heap.size + 1, 0, none⟩ (.int .i64 a)).setCell ⟨w.heap.size + 1, 1, none⟩ (.slice uA n uc)).setCell ⟨w.heap.size + 1, 2, none⟩ (.int .i64 f)).setCell ⟨w.heap.size + 1, 3, none⟩ (.int .i64 t)).setCell ⟨w.heap.size + 1, 4, none⟩ (.int .i64 x)) (w.heap.size + 1) tmT #[.int .i64 a, .slice uA n uc, .int .i64 f, .int .i64 t, .int .i64 x] :=
    (((((HQ2.out.far (p := ⟨w.heap.size, 1, none⟩) (by simp) _).put 0 _).put 1 _).put 2 _).put 3 _).put 4 _
  have HB9 : Below w.heap.size w ((((((w2.setCell ⟨w.heap.size, 1, none⟩ (.slice uA n uc)).setCell ⟨w.heap.size + 1, 0, none⟩ (.int .i64 a)).setCell ⟨w.heap.size + 1, 1, none⟩ (.slice uA n uc)).setCell ⟨w.heap.size + 1, 2, none⟩ (.int .i64 f)).setCell ⟨w.heap.size + 1, 3, none⟩ (.int .i64 t)).setCell ⟨w.heap.size + 1, 4, none⟩ (.int .i64 x)) :=
    (((((((Fr.of_below HB2.out : Fr nob w w2).put (p := ⟨w.heap.size, 1, none⟩) (.inr (Nat.le_refl _)) _).put (p := ⟨w.heap.size + 1, 0, none⟩) (.inr (by simp)) _).put (p := ⟨w.heap.size + 1, 1, none⟩) (.inr (by simp)) _).put (p := ⟨w.heap.size + 1, 2, none⟩) (.inr (by simp)) _).put (p := ⟨w.heap.size + 1, 3, none⟩) (.inr (by simp)) _).put (p := ⟨w.heap.size + 1, 4, none⟩) (.inr (by simp)) _).below0
  generalize ((((((w2.setCell ⟨w.heap.size, 1, none⟩ (.slice uA n uc)).setCell ⟨w.heap.size + 1, 0, none⟩ (.int .i64 a)).setCell ⟨w.heap.size + 1, 1, none⟩ (.slice uA n uc)).setCell ⟨w.heap.size + 1, 2, none⟩ (.int .i64 f)).setCell ⟨w.heap.size + 1, 3, none⟩ (.int .i64 t)).setCell ⟨w.heap.size + 1, 4, none⟩ (.int .i64 x)) = w9 at *
  have c0 : w9.cell? ⟨w.heap.size + 1, 0, none⟩ = some (.int .i64 a) := HK9.cell 0
  have c1 : w9.cell? ⟨w.heap.size + 1, 1, none⟩ = some (.slice uA n uc) := HK9.cell 1
  have c2 : w9.cell? ⟨w.heap.size + 1, 2, none⟩ = some (.int .i64 f) := HK9.cell 2
  have c3 : w9.cell? ⟨w.heap.size + 1, 3, none⟩ = some (.int .i64 t) := HK9.cell 3
  have c4 : w9.cell? ⟨w.heap.size + 1, 4, none⟩ = some (.int .i64 x) := HK9.cell 4
  have hres : Try.f29.results = #[.cell 2 tmT] := by kernel_rfl
  refine bodyPost_ret (v := .agg #[.int .i64 a, .slice uA n uc, .int .i64 f, .int .i64 t, .int .i64 x]) ?_ rfl ⟨_, rfl, HO9, HB9⟩
  simp [results, hres, go_sem, c0, c1, c2, c3, c4]

/-- the tree: its struct, its row of timers, its map of places; the timers' keys -/
structure TreeS (w : World) (base tb mb : Nat) (lv : Value) (L : List TV) (M : List (Nm × Int)) : Prop where
  blk : Blk w tb treeT #[lv, .map (some mb)]
  own : Own w base tmT 5 lv L.length (tms L)
  map : MapR w mb nmV intV M
  keys : ∀ x ∈ L, Own w base bT 1 x.kv x.kb.length (bys x.kb) ∧ Bytes8 x.kb ∧ x.kb.length ≤ 1048576
  bt : base ≤ tb
  bm : base ≤ mb
theorem TreeS.below {w w' : World} {base tb mb : Nat} {lv : Value} {L : List TV} {M : List (Nm × Int)} (h : TreeS w base tb mb lv L M) (hb : Below w.heap.size w w') : TreeS w' base tb mb lv L M :=
  ⟨h.blk.below hb h.blk.lt, h.own.below hb, h.map.below hb h.map.lt, fun x hx => ⟨(h.keys x hx).1.below hb, (h.keys x hx).2⟩, h.bt, h.bm⟩
theorem TreeS.keyIn {w : World} {base tb mb : Nat} {lv : Value} {L : List TV} {M : List (Nm × Int)} (h : TreeS w base tb mb lv L M) {x : TV} (hx : x ∈ L) : KeyIn w w.heap.size x := ⟨(h.keys x hx).1.sl, (h.keys x hx).2.1⟩
theorem tm_at {w : World} {B n c : Nat} {A : Option Addr} {S : List TV} (h : Sl w B (.slice A n c) 5 n (tms S)) {k : Nat} (hk : k < n) (hD : S.length = n) :
    ∃ ad, A = some ad ∧ (ad.add (k * 5)).block < B ∧ w.cell? (ad.add (k * 5)) = some (.int .i64 (S[k]'(by omega)).a) ∧ w.cell? ⟨(ad.add (k * 5)).block, (ad.add (k * 5)).off + 1, none⟩ = some (S[k]'(by omega)).kv ∧
      w.cell? ⟨(ad.add (k * 5)).block, (ad.add (k * 5)).off + 2, none⟩ = some (.int .i64 (S[k]'(by omega)).f) ∧ w.cell? ⟨(ad.add (k * 5)).block, (ad.add (k * 5)).off + 3, none⟩ = some (.int .i64 (S[k]'(by omega)).t) ∧
      w.cell? ⟨(ad.add (k * 5)).block, (ad.add (k * 5)).off + 4, none⟩ = some (.int .i64 (S[k]'(by omega)).w) := by
  obtain ⟨ad, rfl, hb, hh⟩ := h.at_ hk
  rw [tms, part_of TV.cells 5 (fun _ => rfl) S k (by omega)] at hh
  refine ⟨ad, rfl, by rw [add_blk]; exact hb, ?_, ?_, ?_, ?_, ?_⟩
  · have := hh 0 _ rfl
    rwa [add_add'] at this
  · have := hh 1 _ rfl
    rw [add_add', add_fld ad (k * 5) 1 (by omega)] at this
    exact this
  · have := hh 2 _ rfl
    rw [add_add', add_fld ad (k * 5) 2 (by omega)] at this
    exact this
  · have := hh 3 _ rfl
    rw [add_add', add_fld ad (k * 5) 3 (by omega)] at this
    exact this
  · have := hh 4 _ rfl
    rw [add_add', add_fld ad (k * 5) 4 (by omega)] at this
    exact this

def ltT (x y : TV) : Bool := decide (ordT x y < 0)
set_option maxHeartbeats 4000000 in
theorem tless_any (w : World) (base tb mb : Nat) (lv : Value) (L : List TV) (M : List (Nm × Int)) (i k : Nat) (h : TreeS w base tb mb lv L M) (hi : i < L.length) (hk : k < L.length) :
    Calls Try.prog 92 #[.pointer (some ⟨tb, 0, none⟩), .int .i64 i, .int .i64 k] w fun e w' => e = .returned (.bool (ltT L[i] L[k])) ∧ Below w.heap.size w w' := by
  obtain ⟨A, c, rfl, hc⟩ := h.own.sl.form
  obtain ⟨n, hn⟩ : ∃ n, n = L.length := ⟨_, rfl⟩
  have hsl := h.own.sl
  obtain ⟨ad, rfl, hab, a0, a1, a2, a3, a4⟩ := tm_at hsl hi rfl
  obtain ⟨ad2, had2, hab2, b0, b1, b2, b3, b4⟩ := tm_at hsl hk rfl
  injection had2 with had2
  subst had2
  have k1 := h.keyIn (List.getElem_mem hi)
  have k2 := h.keyIn (List.getElem_mem hk)
  have t0 : w.cell? ⟨tb, 0, none⟩ = some (.slice (some ad) L.length c) := h.blk.cell 0
  have htl := h.blk.lt
  rw [← hn] at t0
  have hi2 : (i : Int) < (n : Int) := by omega
  have hk2 : (k : Int) < (n : Int) := by omega
  have hi0 : (0 : Int) ≤ (i : Int) := by omega
  have hk0 : (0 : Int) ≤ (k : Int) := by omega
  clear hsl hc hn
  generalize L[i] = x at *
  generalize L[k] = y at *
  clear h hi hk
  obtain ⟨A1, c1, e1, _⟩ := k1.sl.form
  obtain ⟨A2, c2, e2, _⟩ := k2.sl.form
  obtain ⟨r, hr⟩ : ∃ r, r = ordT x y := ⟨_, rfl⟩
  have HO : Hid (∀ X : World, Below w.heap.size w X → Calls Try.prog 36 #[.agg x.cells.toArray, .agg y.cells.toArray] X fun e w' => e = .returned (.int .i64 r) ∧ Below X.heap.size X w') := fun X hX => by
    rw [hr]
    exact (order_any x y w.heap.size X (k1.below hX) (k2.below hX) hX.size).mono fun e w' ⟨he, hg⟩ => ⟨he, grow_bel hg⟩
  have HR : Hid (ltT x y = decide (r < 0)) := by show _ = _; rw [hr]; rfl
  rw [HR.out]
  clear hr k1 k2 HR
  obtain ⟨xa, xk, xb, xf, xt, xw⟩ := x
  obtain ⟨ya, yk, yb, yf, yt, yw⟩ := y
  unfold TV.cells at HO
  simp only at a0 a1 a2 a3 a4 b0 b1 b2 b3 b4 HO e1 e2
  subst e1 e2
  have y1 := Aft.cell t0 htl
  have z0 := Aft.cell a0 hab
  have z1 := Aft.cell a1 hab
  have z2 := Aft.cell a2 hab
  have z3 := Aft.cell a3 hab
  have z4 := Aft.cell a4 hab
  have u0 := Aft.cell b0 hab2
  have u1 := Aft.cell b1 hab2
  have u2 := Aft.cell b2 hab2
  have u3 := Aft.cell b3 hab2
  have u4 := Aft.cell b4 hab2
  clear a0 a1 a2 a3 a4 b0 b1 b2 b3 b4 t0
  go_enter Try.func92, Try.ntmps92
  go_wp2_with fail
  refine wp_region_aft (by kernel_rfl) (by kernel_rfl) ?_
  repeat (go_big_quiet_step (first
    | (go_at_call 36; with_reducible exact calls_aft (HO.out _ (Aft.h _)))))
  refine wpQuiet_nil ?_
  intro w9 hb9
  have HB9 := hide hb9
  clear hb9
  go_wp2_with fail
  go_ret
  exact ⟨rfl, HB9.out⟩

end Go.Proofs.Ytogelnljkdcajaa

namespace Go.Proofs.Ytogelnljkdcajaa
open Go.RowKit Go.Sort
set_option linter.unusedVariables false
set_option linter.unusedSimpArgs false

theorem TreeS.remap {w w' : World} {base tb mb : Nat} {lv : Value} {L : List TV} {M M' : List (Nm × Int)} (h : TreeS w base tb mb lv L M) (hf : Fr (fun k => k = mb) w w') (hm : MapR w' mb nmV intV M') : TreeS w' base tb mb lv L M' :=
  ⟨hf.blk h.blk (fun e => h.map.ne_blk h.blk e.symm), h.own.fr hf (fun g hg e => h.map.ne_own h.own (by rw [← e]; exact hg)), hm,
   fun x hx => ⟨(h.keys x hx).1.fr hf (fun g hg e => h.map.ne_own (h.keys x hx).1 (by rw [← e]; exact hg)), (h.keys x hx).2⟩, h.bt, h.bm⟩

set_option maxHeartbeats 4000000 in
theorem tnote_any (w : World) (base tb mb : Nat) (lv : Value) (L : List TV) (M : List (Nm × Int)) (i : Nat) (h : TreeS w base tb mb lv L M) (hi : i < L.length) :
    Calls Try.prog 96 #[.pointer (some ⟨tb, 0, none⟩), .int .i64 i] w fun e w' => e = .returned (.tuple #[]) ∧ TreeS w' base tb mb lv L (putM M L[i].nm i) ∧ Fr (fun k => k = mb) w w' := by
  have HT := hide h
  obtain ⟨A, c, rfl, hc⟩ := h.own.sl.form
  obtain ⟨n, hn⟩ : ∃ n, n = L.length := ⟨_, rfl⟩
  have hsl := h.own.sl
  obtain ⟨ad, rfl, hab, a0, a1, a2, a3, a4⟩ := tm_at hsl hi rfl
  have k1 := h.keyIn (List.getElem_mem hi)
  have t0 : w.cell? ⟨tb, 0, none⟩ = some (.slice (some ad) L.length c) := h.blk.cell 0
  have t1 : w.cell? ⟨tb, 1, none⟩ = some (.map (some mb)) := h.blk.cell 1
  have htl := h.blk.lt
  have hml := h.map.lt
  rw [← hn] at t0
  have hi2 : (i : Int) < (n : Int) := by omega
  have hi0 : (0 : Int) ≤ (i : Int) := by omega
  have HMNE : Hid (mb ≠ tb ∧ mb ≠ (ad.add (i * 5)).block) := ⟨h.map.ne_blk h.blk, fun e => h.map.ne_own h.own (by rw [e, add_blk]; rfl)⟩
  clear hsl hc hn h
  have HX : Hid (∀ (X : World), TreeS X base tb mb (.slice (some ad) L.length c) L M → ∀ M', MapR X mb nmV intV M' → True) := fun _ _ _ _ => trivial
  obtain ⟨x, hx⟩ : ∃ x, x = L[i] := ⟨_, rfl⟩
  rw [← hx] at a0 a1 a2 a3 a4 k1 ⊢
  clear hx HX
  obtain ⟨A1, c1, e1, _⟩ := k1.sl.form
  obtain ⟨xa, xk, xb, xf, xt, xw⟩ := x
  simp only at a0 a1 a2 a3 a4 e1
  subst e1
  have HNM : Hid (∀ X : World, Below w.heap.size w X → Calls Try.prog 32 #[.agg #[.slice A1 xb.length c1, .int .i64 xf, .int .i64 xt], .int .i64 xw] X fun e w' => e = .returned (.agg #[.string (strOfNums xb), .int .i64 xf, .int .i64 xt, .int .i64 xw]) ∧ Below X.heap.size X w') := fun X hX =>
    nameOf_any _ xb xb.length w.heap.size xf xt xw X (k1.sl.below hX) rfl hX.size
  have HUP : Hid (∀ X : World, Below w.heap.size w X → ∃ w', (Instr.mapUpdate placeT (.map (some mb)) (.agg #[.string (strOfNums xb), .int .i64 xf, .int .i64 xt, .int .i64 xw]) (.int .i64 i)).run Try.prog X = .ok () w' ∧ TreeS w' base tb mb (.slice (some ad) L.length c) L (putM M (TV.nm ⟨xa, .slice A1 xb.length c1, xb, xf, xt, xw⟩) i) ∧ Fr (fun k => k = mb) w w') := by
    intro X hX
    have hTX := HT.out.below hX
    obtain ⟨w', hr, hm, hf, _⟩ := hTX.map.upd nmW placeU (TV.nm ⟨xa, .slice A1 xb.length c1, xb, xf, xt, xw⟩) (i : Int)
    exact ⟨w', hr, hTX.remap hf hm, (Fr.of_below hX : Fr (fun k => k = mb) w X).trans hf (fun k _ h => h)⟩
  have HCS : Hid (∀ X : World, Fr (fun k => k = mb) w X → X.cell? ⟨tb, 0, none⟩ = some (.slice (some ad) n c) ∧ X.cell? ⟨tb, 1, none⟩ = some (.map (some mb)) ∧ X.cell? ⟨(ad.add (i * 5)).block, (ad.add (i * 5)).off + 1, none⟩ = some (.slice A1 xb.length c1) ∧ X.cell? ⟨(ad.add (i * 5)).block, (ad.add (i * 5)).off + 2, none⟩ = some (.int .i64 xf) ∧ X.cell? ⟨(ad.add (i * 5)).block, (ad.add (i * 5)).off + 3, none⟩ = some (.int .i64 xt) ∧ X.cell? ⟨(ad.add (i * 5)).block, (ad.add (i * 5)).off + 4, none⟩ = some (.int .i64 xw)) := by
    intro X hX
    have h1 := HMNE.out.1
    have h2 := HMNE.out.2
    exact ⟨(hX.cell _ _ htl (fun e => h1 e.symm)).trans t0, (hX.cell _ _ htl (fun e => h1 e.symm)).trans t1, (hX.cell _ _ hab (fun e => h2 e.symm)).trans a1, (hX.cell _ _ hab (fun e => h2 e.symm)).trans a2, (hX.cell _ _ hab (fun e => h2 e.symm)).trans a3, (hX.cell _ _ hab (fun e => h2 e.symm)).trans a4⟩
  clear k1 HT
  go_enter Try.func96, Try.ntmps96
  go_wp2_with fail
  go_region_held3 (fun w' : World => w'.cell? ⟨tb, 0, none⟩ = some (.slice (some ad) n c) ∧ w'.cell? ⟨tb, 1, none⟩ = some (.map (some mb)) ∧ w'.cell? ⟨(ad.add (i * 5)).block, (ad.add (i * 5)).off + 1, none⟩ = some (.slice A1 xb.length c1) ∧ w'.cell? ⟨(ad.add (i * 5)).block, (ad.add (i * 5)).off + 2, none⟩ = some (.int .i64 xf) ∧ w'.cell? ⟨(ad.add (i * 5)).block, (ad.add (i * 5)).off + 3, none⟩ = some (.int .i64 xt) ∧ w'.cell? ⟨(ad.add (i * 5)).block, (ad.add (i * 5)).off + 4, none⟩ = some (.int .i64 xw)) (first | exact HCS.out _ ((Fr.refl _ w).drewN 1) | exact HCS.out _ hk7 | exact HCS.out _ hf8) (first
    | (go_at_call 32; refine (HNM.out _ ((Below.refl _ _).drewN 1)).mono ?_; rintro e w7 ⟨rfl, hb7⟩; have hk6 : Below w.heap.size w w7 := ((Below.refl w.heap.size w).drewN 1).trans hb7; have hk7 : Fr (fun k => k = mb) w w7 := Fr.of_below hk6; obtain ⟨w8, hrun, ht8, hf8⟩ := HUP.out w7 hk6))
  go_wp2_with fail
  go_end0
  exact ⟨rfl, ht8, hf8⟩

theorem tlen_any (w : World) (base tb mb : Nat) (lv : Value) (L : List TV) (M : List (Nm × Int)) (h : TreeS w base tb mb lv L M) :
    Calls Try.prog 91 #[.pointer (some ⟨tb, 0, none⟩)] w fun e w' => e = .returned (.int .i64 L.length) ∧ w' = w := by
  obtain ⟨A, c, rfl, hc⟩ := h.own.sl.form
  have t0 : w.cell? ⟨tb, 0, none⟩ = some (.slice A L.length c) := h.blk.cell 0
  have htl := h.blk.lt
  generalize L.length = n at t0 ⊢
  clear h hc
  go_enter Try.func91, Try.ntmps91
  go_wp2_with fail
  go_ret
  exact ⟨rfl, rfl⟩

def swapL (L : List TV) (i k : Nat) (hi : i < L.length) (hk : k < L.length) : List TV := (L.set i L[k]).set k L[i]
/-- a struct of five cells is stored over another -/
theorem tms_set (L : List TV) (k : Nat) (x : TV) (hk : k < L.length) : tms (L.set k x) = (((((tms L).set (k * 5) (.int .i64 x.a)).set (k * 5 + 1) x.kv).set (k * 5 + 2) (.int .i64 x.f)).set (k * 5 + 3) (.int .i64 x.t)).set (k * 5 + 4) (.int .i64 x.w) := by
  induction L generalizing k with
  | nil => simp at hk
  | cons y L ih =>
    cases k with
    | zero => simp [tms, TV.cells]
    | succ k =>
      have h1 := ih k (by simpa using hk)
      simp only [tms, List.flatMap_cons, TV.cells] at h1 ⊢
      rw [List.set_cons_succ]
      simp only [List.flatMap_cons, TV.cells, h1]
      rw [show (k + 1) * 5 = k * 5 + 5 by omega]
      rfl
theorem Own.setc {w : World} {base e sz n c j : Nat} {ad : Addr} {xs : List Value} (h : Own w base e sz (.slice (some ad) n c) n xs) (hj : j < n * sz) (u : Value) : Own (w.setCell (ad.add j) u) base e sz (.slice (some ad) n c) n (xs.set j u) := by
  refine ⟨by rw [List.length_set]; exact h.1, ?_⟩
  rcases h.2 with ⟨h1, _⟩ | ⟨g, cap, cur, h1, h2, h3, h4, h5, h6, h7⟩
  · cases h1
  · injection h1 with h1 _ h8
    injection h1 with h1
    subst h1
    subst h8
    have hadd : (⟨g, 0, none⟩ : Addr).add j = ⟨g, j, none⟩ := by
      unfold Addr.add
      split <;> simp_all
    rw [hadd]
    refine .inr ⟨g, c, cur.setIfInBounds j u, rfl, h2, Blk.put h3 j u, h4, h5, by simpa using h6, ?_⟩
    rw [← h7, Array.toList_setIfInBounds, List.take_set]
theorem Own.frz {w : World} {base e sz n c : Nat} {ad : Addr} {xs : List Value} (h : Own w base e sz (.slice (some ad) n c) n xs) (j : Nat) : w.frozen? (ad.add j) = false := by
  rcases h.2 with ⟨h1, _⟩ | ⟨g, cap, cur, h1, h2, h3, h4, h5, h6, h7⟩
  · cases h1
  · injection h1 with h1 _ h8
    injection h1 with h1
    subst h1
    have hadd : (⟨g, 0, none⟩ : Addr).add j = ⟨g, j, none⟩ := by
      unfold Addr.add
      split <;> simp_all
    rw [hadd]
    exact Blk.frozen h3 j
def put5 (w : World) (p : Addr) (x : TV) : World := ((((w.setCell p (.int .i64 x.a)).setCell ⟨p.block, p.off + 1, none⟩ x.kv).setCell ⟨p.block, p.off + 2, none⟩ (.int .i64 x.f)).setCell ⟨p.block, p.off + 3, none⟩ (.int .i64 x.t)).setCell ⟨p.block, p.off + 4, none⟩ (.int .i64 x.w)
theorem Own.put5 {w : World} {base n c k : Nat} {ad : Addr} {L : List TV} (h : Own w base tmT 5 (.slice (some ad) n c) n (tms L)) (hk : k < L.length) (hD : L.length = n) (x : TV) :
    Own (put5 w (ad.add (k * 5)) x) base tmT 5 (.slice (some ad) n c) n (tms (L.set k x)) := by
  rw [tms_set L k x hk]
  have h0 := h.setc (j := k * 5) (by omega) (.int .i64 x.a)
  have h1 := h0.setc (j := k * 5 + 1) (by omega) x.kv
  have h2 := h1.setc (j := k * 5 + 2) (by omega) (.int .i64 x.f)
  have h3 := h2.setc (j := k * 5 + 3) (by omega) (.int .i64 x.t)
  have h4 := h3.setc (j := k * 5 + 4) (by omega) (.int .i64 x.w)
  rw [add_fld ad (k * 5) 1 (by omega), add_fld ad (k * 5) 2 (by omega), add_fld ad (k * 5) 3 (by omega), add_fld ad (k * 5) 4 (by omega)] at h4
  exact h4
theorem put5_fr {S : Nat → Prop} {w w1 : World} (h : Fr S w w1) {p : Addr} (hp : S p.block) (x : TV) : Fr S w (Go.Proofs.Ytogelnljkdcajaa.put5 w1 p x) := by
  unfold Go.Proofs.Ytogelnljkdcajaa.put5
  exact ((((h.put (.inl hp) _).put (p := ⟨p.block, p.off + 1, none⟩) (.inl hp) _).put (p := ⟨p.block, p.off + 2, none⟩) (.inl hp) _).put (p := ⟨p.block, p.off + 3, none⟩) (.inl hp) _).put (p := ⟨p.block, p.off + 4, none⟩) (.inl hp) _

theorem swapL_len (L : List TV) (i k : Nat) (hi : i < L.length) (hk : k < L.length) : (swapL L i k hi hk).length = L.length := by simp [swapL]
theorem swapL_mem {L : List TV} {i k : Nat} {hi : i < L.length} {hk : k < L.length} {x : TV} (hx : x ∈ swapL L i k hi hk) : x ∈ L := by
  unfold swapL at hx
  rcases List.mem_or_eq_of_mem_set hx with h | rfl
  · rcases List.mem_or_eq_of_mem_set h with h | rfl
    · exact h
    · exact List.getElem_mem hk
  · exact List.getElem_mem hi
theorem TreeS.swap {w : World} {base tb mb c n : Nat} {ad : Addr} {L : List TV} {M : List (Nm × Int)} {i k : Nat} (h : TreeS w base tb mb (.slice (some ad) n c) L M) (hn : n = L.length) (hi : i < L.length) (hk : k < L.length) {x y : TV} (hx : x = L[i]) (hy : y = L[k]) :
    TreeS (put5 (put5 w (ad.add (i * 5)) y) (ad.add (k * 5)) x).drew base tb mb (.slice (some ad) n c) (swapL L i k hi hk) M ∧ Fr (fun j => (Value.slice (some ad) n c).ownBlock = some j) w (put5 (put5 w (ad.add (i * 5)) y) (ad.add (k * 5)) x).drew := by
  subst hx hy hn
  have ho := h.own
  obtain ⟨g, hg⟩ : ∃ g, ad = ⟨g, 0, none⟩ := by
    rcases ho.2 with ⟨h1, _⟩ | ⟨g, cap, cur, h1, _⟩
    · cases h1
    · injection h1 with h1
      injection h1 with h1
      exact ⟨g, h1⟩
  have hgo : (Value.slice (some ad) L.length c).ownBlock = some g := by rw [hg]; rfl
  have hb : ∀ j, (ad.add j).block = g := fun j => by rw [add_blk, hg]
  have hf : Fr (fun j => (Value.slice (some ad) L.length c).ownBlock = some j) w (put5 (put5 w (ad.add (i * 5)) L[k]) (ad.add (k * 5)) L[i]).drew :=
    (put5_fr (put5_fr (Fr.refl _ w) (by rw [hb]; exact hgo) _) (by rw [hb]; exact hgo) _).drewN 1
  have ho1 := ho.put5 hi rfl L[k]
  have ho2 := ho1.put5 (k := k) (by rw [List.length_set]; exact hk) (by rw [List.length_set]) L[i]
  refine ⟨⟨hf.blk h.blk (fun e => ?_), ?_, h.map.fr hf (fun e => h.map.ne_own ho e), fun x hx => ⟨(h.keys x (swapL_mem hx)).1.fr hf (fun j hj e => ?_), (h.keys x (swapL_mem hx)).2⟩, h.bt, h.bm⟩, hf⟩
  · exact ho.ne h.blk (by decide) e
  · rw [swapL_len]
    exact ho2.drew
  · obtain ⟨cs, hc⟩ := ho.typed j e
    exact (h.keys x (swapL_mem hx)).1.ne hc (by decide) hj

theorem chain5 (w : World) (p : Addr) (v0 v1 v2 v3 c1 c2 c3 c4 : Value) (h1 : w.cell? ⟨p.block, p.off + 1, none⟩ = some c1) (h2 : w.cell? ⟨p.block, p.off + 2, none⟩ = some c2) (h3 : w.cell? ⟨p.block, p.off + 3, none⟩ = some c3) (h4 : w.cell? ⟨p.block, p.off + 4, none⟩ = some c4) :
    (w.setCell p v0).cell? ⟨p.block, p.off + 1, none⟩ = some c1 ∧ ((w.setCell p v0).setCell ⟨p.block, p.off + 1, none⟩ v1).cell? ⟨p.block, p.off + 2, none⟩ = some c2 ∧
    (((w.setCell p v0).setCell ⟨p.block, p.off + 1, none⟩ v1).setCell ⟨p.block, p.off + 2, none⟩ v2).cell? ⟨p.block, p.off + 3, none⟩ = some c3 ∧
    ((((w.setCell p v0).setCell ⟨p.block, p.off + 1, none⟩ v1).setCell ⟨p.block, p.off + 2, none⟩ v2).setCell ⟨p.block, p.off + 3, none⟩ v3).cell? ⟨p.block, p.off + 4, none⟩ = some c4 := by
  have n1 : ∀ j, 0 < j → p ≠ ⟨p.block, p.off + j, none⟩ := fun j hj h => by have := congrArg Addr.off h; simp at this; omega
  have n2 : ∀ i j, i ≠ j → (⟨p.block, p.off + i, none⟩ : Addr) ≠ ⟨p.block, p.off + j, none⟩ := fun i j hij h => by have := congrArg Addr.off h; simp at this; omega
  refine ⟨?_, ?_, ?_, ?_⟩
  · rw [World.cell?_setCell_other _ _ _ _ (n1 1 (by omega)), h1]
  · rw [World.cell?_setCell_other _ _ _ _ (n2 1 2 (by omega)), World.cell?_setCell_other _ _ _ _ (n1 2 (by omega)), h2]
  · rw [World.cell?_setCell_other _ _ _ _ (n2 2 3 (by omega)), World.cell?_setCell_other _ _ _ _ (n2 1 3 (by omega)), World.cell?_setCell_other _ _ _ _ (n1 3 (by omega)), h3]
  · rw [World.cell?_setCell_other _ _ _ _ (n2 3 4 (by omega)), World.cell?_setCell_other _ _ _ _ (n2 2 4 (by omega)), World.cell?_setCell_other _ _ _ _ (n2 1 4 (by omega)), World.cell?_setCell_other _ _ _ _ (n1 4 (by omega)), h4]

set_option maxRecDepth 100000 in
set_option maxHeartbeats 8000000 in
theorem tswap_any (w : World) (base tb mb : Nat) (lv : Value) (L : List TV) (M : List (Nm × Int)) (i k : Nat) (h : TreeS w base tb mb lv L M) (hi : i < L.length) (hk : k < L.length) :
    Calls Try.prog 95 #[.pointer (some ⟨tb, 0, none⟩), .int .i64 i, .int .i64 k] w fun e w' => e = .returned (.tuple #[]) ∧ TreeS w' base tb mb lv (swapL L i k hi hk) (putM (putM M L[k].nm i) L[i].nm k) ∧ Fr (fun j => j = mb ∨ lv.ownBlock = some j) w w' := by
  have HT := hide h
  obtain ⟨A, c, rfl, hc⟩ := h.own.sl.form
  obtain ⟨n, hn⟩ : ∃ n, n = L.length := ⟨_, rfl⟩
  have hsl := h.own.sl
  obtain ⟨ad, rfl, hab, a0, a1, a2, a3, a4⟩ := tm_at hsl hi rfl
  obtain ⟨ad2, had2, hab2, b0, b1, b2, b3, b4⟩ := tm_at hsl hk rfl
  injection had2 with had2
  subst had2
  have t0 : w.cell? ⟨tb, 0, none⟩ = some (.slice (some ad) L.length c) := h.blk.cell 0
  have htl := h.blk.lt
  rw [← hn] at t0
  have hi2 : (i : Int) < (n : Int) := by omega
  have hi0 : (0 : Int) ≤ (i : Int) := by omega
  have hk2 : (k : Int) < (n : Int) := by omega
  have hk0 : (0 : Int) ≤ (k : Int) := by omega
  have f0 := h.own.frz (i * 5)
  have f1 := h.own.frz (i * 5 + 1)
  have f2 := h.own.frz (i * 5 + 2)
  have f3 := h.own.frz (i * 5 + 3)
  have f4 := h.own.frz (i * 5 + 4)
  have g0 := h.own.frz (k * 5)
  have g1 := h.own.frz (k * 5 + 1)
  have g2 := h.own.frz (k * 5 + 2)
  have g3 := h.own.frz (k * 5 + 3)
  have g4 := h.own.frz (k * 5 + 4)
  rw [add_fld ad (i * 5) 1 (by omega)] at f1
  rw [add_fld ad (i * 5) 2 (by omega)] at f2
  rw [add_fld ad (i * 5) 3 (by omega)] at f3
  rw [add_fld ad (i * 5) 4 (by omega)] at f4
  rw [add_fld ad (k * 5) 1 (by omega)] at g1
  rw [add_fld ad (k * 5) 2 (by omega)] at g2
  rw [add_fld ad (k * 5) 3 (by omega)] at g3
  rw [add_fld ad (k * 5) 4 (by omega)] at g4
  have kx := h.keyIn (List.getElem_mem hi)
  have ky := h.keyIn (List.getElem_mem hk)
  obtain ⟨x, hx⟩ : ∃ x, x = L[i] := ⟨_, rfl⟩
  obtain ⟨y, hy⟩ : ∃ y, y = L[k] := ⟨_, rfl⟩
  rw [← hx] at a0 a1 a2 a3 a4 kx
  rw [← hy] at b0 b1 b2 b3 b4 ky
  have HOW := hide (h.own.put5 hi rfl y)
  obtain ⟨ad3, had3, _, d0, d1, d2, d3, d4⟩ := tm_at HOW.out.sl hk (by rw [List.length_set])
  injection had3 with had3
  subst had3
  have HSW : Hid (TreeS (put5 (put5 w (ad.add (i * 5)) y) (ad.add (k * 5)) x).drew base tb mb (.slice (some ad) L.length c) (swapL L i k hi hk) M ∧ Fr (fun j => (Value.slice (some ad) L.length c).ownBlock = some j) w (put5 (put5 w (ad.add (i * 5)) y) (ad.add (k * 5)) x).drew) := HT.out.swap rfl hi hk hx hy
  generalize ((L.set i y)[k]'(by rw [List.length_set]; exact hk)) = z at d0 d1 d2 d3 d4
  obtain ⟨A1, c1, e1, _⟩ := kx.sl.form
  obtain ⟨A2, c2, e2, _⟩ := ky.sl.form
  have hq : ((swapL L i k hi hk)[i]'(by rw [swapL_len]; exact hi)).nm = L[k].nm := by
    unfold swapL
    rw [List.getElem_set]
    split
    · rename_i h9; subst h9; rfl
    · rw [List.getElem_set_self]
  have hq2 : ((swapL L i k hi hk)[k]'(by rw [swapL_len]; exact hk)).nm = L[i].nm := by
    unfold swapL
    rw [List.getElem_set_self]
  generalize (TV.nm L[k]) = nk at hq ⊢
  generalize (TV.nm L[i]) = ni at hq2 ⊢
  have HNI : Hid ((hr : i < (swapL L i k hi hk).length) → ((swapL L i k hi hk)[i]).nm = nk) := fun _ => hq
  have HNK : Hid ((hr : k < (swapL L i k hi hk).length) → ((swapL L i k hi hk)[k]).nm = ni) := fun _ => hq2
  have HLI : Hid (i < (swapL L i k hi hk).length ∧ k < (swapL L i k hi hk).length) := ⟨by rw [swapL_len]; exact hi, by rw [swapL_len]; exact hk⟩
  generalize hL2 : swapL L i k hi hk = L2 at HSW HNI HNK HLI ⊢
  clear hsl hc hn h hx hy kx ky hq hq2 hL2
  obtain ⟨xa, xk, xb, xf, xt, xw⟩ := x
  obtain ⟨ya, yk, yb, yf, yt, yw⟩ := y
  obtain ⟨za, zk, zb, zf, zt, zw⟩ := z
  simp only at a0 a1 a2 a3 a4 b0 b1 b2 b3 b4 d0 d1 d2 d3 d4 e1 e2
  subst e1 e2
  unfold put5 at d0 d1 d2 d3 d4
  simp only at d0 d1 d2 d3 d4
  obtain ⟨m1, m2, m3, m4⟩ := chain5 w (ad.add (i * 5)) (.int .i64 ya) (.slice A2 yb.length c2) (.int .i64 yf) (.int .i64 yt) _ _ _ _ a1 a2 a3 a4
  obtain ⟨o1, o2, o3, o4⟩ := chain5 _ (ad.add (k * 5)) (.int .i64 xa) (.slice A1 xb.length c1) (.int .i64 xf) (.int .i64 xt) _ _ _ _ d1 d2 d3 d4
  go_enter Try.func95, Try.ntmps95
  go_wp2_with fail
  go_region
  change Exit.then _ _ _ _ (World.drew (put5 (put5 w (ad.add (i * 5)) ⟨ya, .slice A2 yb.length c2, yb, yf, yt, yw⟩) (ad.add (k * 5)) ⟨xa, .slice A1 xb.length c1, xb, xf, xt, xw⟩))
  generalize (World.drew (put5 (put5 w (ad.add (i * 5)) ⟨ya, .slice A2 yb.length c2, yb, yf, yt, yw⟩) (ad.add (k * 5)) ⟨xa, .slice A1 xb.length c1, xb, xf, xt, xw⟩)) = w2 at HSW ⊢
  clear a0 a1 a2 a3 a4 b0 b1 b2 b3 b4 d0 d1 d2 d3 d4 m1 m2 m3 m4 o1 o2 o3 o4 f0 f1 f2 f3 f4 g0 g1 g2 g3 g4 t0
  go_wp2_with fail
  refine (tnote_any w2 base tb mb _ L2 M i HSW.out.1 HLI.out.1).mono ?_
  rintro e w7 ⟨rfl, ht7, hf7⟩
  rw [HNI.out HLI.out.1] at ht7
  have HT7 := hide ht7
  have HF7 := hide hf7
  clear ht7 hf7
  go_wp2_with fail
  refine (tnote_any w7 base tb mb _ L2 _ k HT7.out HLI.out.2).mono ?_
  rintro e w8 ⟨rfl, ht8, hf8⟩
  rw [HNK.out HLI.out.2] at ht8
  have HT8 := hide ht8
  have HF8 := hide hf8
  clear ht8 hf8
  go_wp2_with fail
  go_end0
  exact ⟨rfl, HT8.out, ((HSW.out.2.mono (fun j _ h => .inr h)).trans HF7.out (fun j _ h => .inl h)).trans HF8.out (fun j _ h => .inl h)⟩

end Go.Proofs.Ytogelnljkdcajaa
