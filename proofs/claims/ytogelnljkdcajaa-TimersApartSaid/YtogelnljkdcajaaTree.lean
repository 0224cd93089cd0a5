/- The tree of timers: nameOf, copied; Len, Less, note, Swap, Push, Pop. -/
import Derived.Test.YtogelnljkdcajaaTm2
namespace Go.Proofs.Ytogelnljkdcajaa
open Go.RowKit Go.Sort
set_option linter.unusedVariables false
set_option linter.unusedSimpArgs false

def TV.nm (x : TV) : Nm := ⟨strOfNums x.kb, x.f, x.t, x.w⟩
abbrev keyT : Nat := 35
abbrev treeT : Nat := 68

set_option maxHeartbeats 2000000 in
theorem nameOf_any (v : Value) (D : List Int) (n B : Nat) (f t x : Int) (w : World) (hs : Sl w B v 1 n (bys D)) (hD : D.length = n) (hB : B ≤ w.heap.size) :
    Calls Try.prog 32 #[.agg #[v, .int .i64 f, .int .i64 t], .int .i64 x] w fun e w' => e = .returned (nmV ⟨strOfNums D, f, t, x⟩) ∧ Below w.heap.size w w' := by
  obtain ⟨A, c, rfl, hc⟩ := hs.form
  have HST : Hid (∀ X : World, Below w.heap.size w X → (convert 22 9 (.slice A n c)).run Try.prog X = .ok (.string (strOfNums D)) X) := fun X h => bys_str _ D n B X (hs.below (h.mono hB)) hD
  have hst := HST.out _ (((Below.refl w.heap.size w).alloc (Nat.le_refl _) (.cells #[.slice A n c, .int .i64 f, .int .i64 t] keyT)).alloc (by simp) (.cells #[.string ⟨#[]⟩, .int .i64 0, .int .i64 0, .int .i64 0] nmT))
  clear hs hD
  go_enter Try.func32, Try.ntmps32
  go_wp2_with fail
  have hB1 : Below w.heap.size w ((w.alloc (.cells #[.slice A n c, .int .i64 f, .int .i64 t] keyT)).alloc (.cells #[.string (strOfNums D), .int .i64 f, .int .i64 t, .int .i64 x] nmT)) := ((Below.refl w.heap.size w).alloc (Nat.le_refl _) _).alloc (by simp) _
  have hK : Blk ((w.alloc (.cells #[.slice A n c, .int .i64 f, .int .i64 t] keyT)).alloc (.cells #[.string (strOfNums D), .int .i64 f, .int .i64 t, .int .i64 x] nmT)) (w.heap.size + 1) nmT #[.string (strOfNums D), .int .i64 f, .int .i64 t, .int .i64 x] := by
    have h9 := Blk.new (w.alloc (.cells #[.slice A n c, .int .i64 f, .int .i64 t] keyT)) nmT #[.string (strOfNums D), .int .i64 f, .int .i64 t, .int .i64 x]
    simpa using h9
  generalize ((w.alloc (.cells #[.slice A n c, .int .i64 f, .int .i64 t] keyT)).alloc (.cells #[.string (strOfNums D), .int .i64 f, .int .i64 t, .int .i64 x] nmT)) = w5 at *
  have c0 : w5.cell? ⟨w.heap.size + 1, 0, none⟩ = some (.string (strOfNums D)) := hK.cell 0
  have c1 : w5.cell? ⟨w.heap.size + 1, 1, none⟩ = some (.int .i64 f) := hK.cell 1
  have c2 : w5.cell? ⟨w.heap.size + 1, 2, none⟩ = some (.int .i64 t) := hK.cell 2
  have c3 : w5.cell? ⟨w.heap.size + 1, 3, none⟩ = some (.int .i64 x) := hK.cell 3
  have hres : Try.f32.results = #[.cell 4 nmT] := by kernel_rfl
  refine bodyPost_ret (v := nmV ⟨strOfNums D, f, t, x⟩) ?_ rfl ⟨rfl, hB1⟩
  simp [results, hres, go_sem, c0, c1, c2, c3, nmV]

set_option maxHeartbeats 2000000 in
theorem copied_any (a f t x : Int) (v : Value) (D : List Int) (n B : Nat) (w : World) (hs : Sl w B v 1 n (bys D)) (hD : D.length = n) (hn : n ≤ 140737488355328) (hB : B ≤ w.heap.size) :
    Calls Try.prog 29 #[.agg #[.int .i64 a, v, .int .i64 f, .int .i64 t, .int .i64 x]] w fun e w' => ∃ u, e = .returned (.agg #[.int .i64 a, u, .int .i64 f, .int .i64 t, .int .i64 x]) ∧ Own w' w.heap.size bT 1 u n (bys D) ∧ Below w.heap.size w w' := by
  obtain ⟨A, c, rfl, hc⟩ := hs.form
  have HS := hide hs
  have HD := hide hD
  clear hs hD
  go_enter Try.func29, Try.ntmps29
  go_wp2_with fail
  have HP : Hid (Blk ((w.alloc (.cells #[.int .i64 a, .slice A n c, .int .i64 f, .int .i64 t, .int .i64 x] tmT)).alloc (.cells #[.int .i64 0, .slice none 0 0, .int .i64 0, .int .i64 0, .int .i64 0] tmT)) w.heap.size tmT #[.int .i64 a, .slice A n c, .int .i64 f, .int .i64 t, .int .i64 x]) := (Blk.new w _ _).alloc _
  have HQ : Hid (Blk ((w.alloc (.cells #[.int .i64 a, .slice A n c, .int .i64 f, .int .i64 t, .int .i64 x] tmT)).alloc (.cells #[.int .i64 0, .slice none 0 0, .int .i64 0, .int .i64 0, .int .i64 0] tmT)) (w.heap.size + 1) tmT #[.int .i64 0, .slice none 0 0, .int .i64 0, .int .i64 0, .int .i64 0]) := by
    have h9 := Blk.new (w.alloc (.cells #[.int .i64 a, .slice A n c, .int .i64 f, .int .i64 t, .int .i64 x] tmT)) tmT #[.int .i64 0, .slice none 0 0, .int .i64 0, .int .i64 0, .int .i64 0]
    simpa [Hid] using h9
  have HBW : Hid (Below w.heap.size w ((w.alloc (.cells #[.int .i64 a, .slice A n c, .int .i64 f, .int .i64 t, .int .i64 x] tmT)).alloc (.cells #[.int .i64 0, .slice none 0 0, .int .i64 0, .int .i64 0, .int .i64 0] tmT))) := ((Below.refl w.heap.size w).alloc (Nat.le_refl _) _).alloc (by simp) _
  refine (bclone_any _ D n B _ (HS.out.below (HBW.out.mono hB)) HD.out hn (Nat.le_trans hB HBW.out.size)).mono ?_
  generalize (w.alloc (.cells #[.int .i64 a, .slice A n c, .int .i64 f, .int .i64 t, .int .i64 x] tmT)).alloc (.cells #[.int .i64 0, .slice none 0 0, .int .i64 0, .int .i64 0, .int .i64 0] tmT) = w1 at *
  rintro e w2 ⟨u, rfl, ho, hb⟩
  have HO := hide (ho.lower HBW.out.size)
  have HP2 := hide (HP.out.below hb HP.out.lt)
  have HQ2 := hide (HQ.out.below hb HQ.out.lt)
  have HB2 := hide (HBW.out.trans (hb.mono HBW.out.size))
  have HUB : Hid (∀ g, u.ownBlock = some g → w1.heap.size ≤ g) := fun g hg => (ho.lt g hg).1
  have hp1 := HP.out.lt
  have hq1 := HQ.out.lt
  clear ho hb HP HQ HBW
  obtain ⟨uA, uc, rfl, huc⟩ := HO.out.sl.form
  have p0 : w2.cell? ⟨w.heap.size, 0, none⟩ = some (.int .i64 a) := HP2.out.cell 0
  have p1 : w2.cell? ⟨w.heap.size, 1, none⟩ = some (.slice A n c) := HP2.out.cell 1
  have p2 : w2.cell? ⟨w.heap.size, 2, none⟩ = some (.int .i64 f) := HP2.out.cell 2
  have p3 : w2.cell? ⟨w.heap.size, 3, none⟩ = some (.int .i64 t) := HP2.out.cell 3
  have p4 : w2.cell? ⟨w.heap.size, 4, none⟩ = some (.int .i64 x) := HP2.out.cell 4
  have z1 := HP2.out.frozen 1
  have q0 : w2.cell? ⟨w.heap.size + 1, 0, none⟩ = some (.int .i64 0) := HQ2.out.cell 0
  have q1 : w2.cell? ⟨w.heap.size + 1, 1, none⟩ = some (.slice none 0 0) := HQ2.out.cell 1
  have q2 : w2.cell? ⟨w.heap.size + 1, 2, none⟩ = some (.int .i64 0) := HQ2.out.cell 2
  have q3 : w2.cell? ⟨w.heap.size + 1, 3, none⟩ = some (.int .i64 0) := HQ2.out.cell 3
  have q4 : w2.cell? ⟨w.heap.size + 1, 4, none⟩ = some (.int .i64 0) := HQ2.out.cell 4
  have y0 := HQ2.out.frozen 0
  have y1 := HQ2.out.frozen 1
  have y2 := HQ2.out.frozen 2
  have y3 := HQ2.out.frozen 3
  have y4 := HQ2.out.frozen 4
  have hlp := HP2.out.lt
  have hlq := HQ2.out.lt
  go_wp2_with fail
  have hU : ∀ g, (Value.slice uA n uc).ownBlock = some g → g ≠ w.heap.size ∧ g ≠ w.heap.size + 1 := fun g hg => by have := HUB.out g hg; omega
  have hne0 : (Value.slice uA n uc).ownBlock ≠ some w.heap.size := fun h => (hU _ h).1 rfl
  have hne1 : (Value.slice uA n uc).ownBlock ≠ some (w.heap.size + 1) := fun h => (hU _ h).2 rfl
  have HO9 : Own ((((((w2.setCell ⟨w.heap.size, 1, none⟩ (.slice uA n uc)).setCell ⟨w.heap.size + 1, 0, none⟩ (.int .i64 a)).setCell ⟨w.heap.size + 1, 1, none⟩ (.slice uA n uc)).setCell ⟨w.heap.size + 1, 2, none⟩ (.int .i64 f)).setCell ⟨w.heap.size + 1, 3, none⟩ (.int .i64 t)).setCell ⟨w.heap.size + 1, 4, none⟩ (.int .i64 x)) w.heap.size bT 1 (.slice uA n uc) n (bys D) :=
    (((((HO.out.put (p := ⟨w.heap.size, 1, none⟩) hne0 _).put (p := ⟨w.heap.size + 1, 0, none⟩) hne1 _).put (p := ⟨w.heap.size + 1, 1, none⟩) hne1 _).put (p := ⟨w.heap.size + 1, 2, none⟩) hne1 _).put (p := ⟨w.heap.size + 1, 3, none⟩) hne1 _).put (p := ⟨w.heap.size + 1, 4, none⟩) hne1 _
  have HK9 : Blk ((((((w2.setCell ⟨w.heap.size, 1, none⟩ (.slice uA n uc)).setCell ⟨w.heap.size + 1, 0, none⟩ (.int .i64 a)).setCell ⟨w.heap.size + 1, 1, none⟩ (.slice uA n uc)).setCell ⟨w.heap.size + 1, 2, none⟩ (.int .i64 f)).setCell ⟨w.heap.size + 1, 3, none⟩ (.int .i64 t)).setCell ⟨w.heap.size + 1, 4, none⟩ (.int .i64 x)) (w.heap.size + 1) tmT #[.int .i64 a, .slice uA n uc, .int .i64 f, .int .i64 t, .int .i64 x] :=
    (((((HQ2.out.far (p := ⟨w.heap.size, 1, none⟩) (by simp) _).put 0 _).put 1 _).put 2 _).put 3 _).put 4 _
  have HB9 : Below w.heap.size w ((((((w2.setCell ⟨w.heap.size, 1, none⟩ (.slice uA n uc)).setCell ⟨w.heap.size + 1, 0, none⟩ (.int .i64 a)).setCell ⟨w.heap.size + 1, 1, none⟩ (.slice uA n uc)).setCell ⟨w.heap.size + 1, 2, none⟩ (.int .i64 f)).setCell ⟨w.heap.size + 1, 3, none⟩ (.int .i64 t)).setCell ⟨w.heap.size + 1, 4, none⟩ (.int .i64 x)) :=
    (((((((Fr.of_below HB2.out : Fr nob w w2).put (p := ⟨w.heap.size, 1, none⟩) (.inr (Nat.le_refl _)) _).put (p := ⟨w.heap.size + 1, 0, none⟩) (.inr (by simp)) _).put (p := ⟨w.heap.size + 1, 1, none⟩) (.inr (by simp)) _).put (p := ⟨w.heap.size + 1, 2, none⟩) (.inr (by simp)) _).put (p := ⟨w.heap.size + 1, 3, none⟩) (.inr (by simp)) _).put (p := ⟨w.heap.size + 1, 4, none⟩) (.inr (by simp)) _).below0
  generalize ((((((w2.setCell ⟨w.heap.size, 1, none⟩ (.slice uA n uc)).setCell ⟨w.heap.size + 1, 0, none⟩ (.int .i64 a)).setCell ⟨w.heap.size + 1, 1, none⟩ (.slice uA n uc)).setCell ⟨w.heap.size + 1, 2, none⟩ (.int .i64 f)).setCell ⟨w.heap.size + 1, 3, none⟩ (.int .i64 t)).setCell ⟨w.heap.size + 1, 4, none⟩ (.int .i64 x)) = w9 at *
  have c0 : w9.cell? ⟨w.heap.size + 1, 0, none⟩ = some (.int .i64 a) := HK9.cell 0
  have c1 : w9.cell? ⟨w.heap.size + 1, 1, none⟩ = some (.slice uA n uc) := HK9.cell 1
  have c2 : w9.cell? ⟨w.heap.size + 1, 2, none⟩ = some (.int .i64 f) := HK9.cell 2
  have c3 : w9.cell? ⟨w.heap.size + 1, 3, none⟩ = some (.int .i64 t) := HK9.cell 3
  have c4 : w9.cell? ⟨w.heap.size + 1, 4, none⟩ = some (.int .i64 x) := HK9.cell 4
  have hres : Try.f29.results = #[.cell 2 tmT] := by kernel_rfl
  refine bodyPost_ret (v := .agg #[.int .i64 a, .slice uA n uc, .int .i64 f, .int .i64 t, .int .i64 x]) ?_ rfl ⟨_, rfl, HO9, HB9⟩
  simp [results, hres, go_sem, c0, c1, c2, c3, c4]

/-- the tree: its struct, its row of timers, its map of places; the timers' keys -/
structure TreeS (w : World) (base tb mb : Nat) (lv : Value) (L : List TV) (M : List (Nm × Int)) : Prop where
  blk : Blk w tb treeT #[lv, .map (some mb)]
  own : Own w base tmT 5 lv L.length (tms L)
  map : MapR w mb nmV intV M
  keys : ∀ x ∈ L, Own w base bT 1 x.kv x.kb.length (bys x.kb) ∧ Bytes8 x.kb ∧ x.kb.length ≤ 1048576
  bt : base ≤ tb
  bm : base ≤ mb
theorem TreeS.below {w w' : World} {base tb mb : Nat} {lv : Value} {L : List TV} {M : List (Nm × Int)} (h : TreeS w base tb mb lv L M) (hb : Below w.heap.size w w') : TreeS w' base tb mb lv L M :=
  ⟨h.blk.below hb h.blk.lt, h.own.below hb, h.map.below hb h.map.lt, fun x hx => ⟨(h.keys x hx).1.below hb, (h.keys x hx).2⟩, h.bt, h.bm⟩
theorem TreeS.keyIn {w : World} {base tb mb : Nat} {lv : Value} {L : List TV} {M : List (Nm × Int)} (h : TreeS w base tb mb lv L M) {x : TV} (hx : x ∈ L) : KeyIn w w.heap.size x := ⟨(h.keys x hx).1.sl, (h.keys x hx).2.1⟩
theorem tm_at {w : World} {B n c : Nat} {A : Option Addr} {S : List TV} (h : Sl w B (.slice A n c) 5 n (tms S)) {k : Nat} (hk : k < n) (hD : S.length = n) :
    ∃ ad, A = some ad ∧ (ad.add (k * 5)).block < B ∧ w.cell? (ad.add (k * 5)) = some (.int .i64 (S[k]'(by omega)).a) ∧ w.cell? ⟨(ad.add (k * 5)).block, (ad.add (k * 5)).off + 1, none⟩ = some (S[k]'(by omega)).kv ∧
      w.cell? ⟨(ad.add (k * 5)).block, (ad.add (k * 5)).off + 2, none⟩ = some (.int .i64 (S[k]'(by omega)).f) ∧ w.cell? ⟨(ad.add (k * 5)).block, (ad.add (k * 5)).off + 3, none⟩ = some (.int .i64 (S[k]'(by omega)).t) ∧
      w.cell? ⟨(ad.add (k * 5)).block, (ad.add (k * 5)).off + 4, none⟩ = some (.int .i64 (S[k]'(by omega)).w) := by
  obtain ⟨ad, rfl, hb, hh⟩ := h.at_ hk
  rw [tms, part_of TV.cells 5 (fun _ => rfl) S k (by omega)] at hh
  refine ⟨ad, rfl, by rw [add_blk]; exact hb, ?_, ?_, ?_, ?_, ?_⟩
  · have := hh 0 _ rfl
    rwa [add_add'] at this
  · have := hh 1 _ rfl
    rw [add_add', add_fld ad (k * 5) 1 (by omega)] at this
    exact this
  · have := hh 2 _ rfl
    rw [add_add', add_fld ad (k * 5) 2 (by omega)] at this
    exact this
  · have := hh 3 _ rfl
    rw [add_add', add_fld ad (k * 5) 3 (by omega)] at this
    exact this
  · have := hh 4 _ rfl
    rw [add_add', add_fld ad (k * 5) 4 (by omega)] at this
    exact this

def ltT (x y : TV) : Bool := decide (ordT x y < 0)
set_option maxHeartbeats 4000000 in
theorem tless_any (w : World) (base tb mb : Nat) (lv : Value) (L : List TV) (M : List (Nm × Int)) (i k : Nat) (h : TreeS w base tb mb lv L M) (hi : i < L.length) (hk : k < L.length) :
    Calls Try.prog 92 #[.pointer (some ⟨tb, 0, none⟩), .int .i64 i, .int .i64 k] w fun e w' => e = .returned (.bool (ltT L[i] L[k])) ∧ Below w.heap.size w w' := by
  obtain ⟨A, c, rfl, hc⟩ := h.own.sl.form
  obtain ⟨n, hn⟩ : ∃ n, n = L.length := ⟨_, rfl⟩
  have hsl := h.own.sl
  obtain ⟨ad, rfl, hab, a0, a1, a2, a3, a4⟩ := tm_at hsl hi rfl
  obtain ⟨ad2, had2, hab2, b0, b1, b2, b3, b4⟩ := tm_at hsl hk rfl
  injection had2 with had2
  subst had2
  have k1 := h.keyIn (List.getElem_mem hi)
  have k2 := h.keyIn (List.getElem_mem hk)
  have t0 : w.cell? ⟨tb, 0, none⟩ = some (.slice (some ad) L.length c) := h.blk.cell 0
  have htl := h.blk.lt
  rw [← hn] at t0
  have hi2 : (i : Int) < (n : Int) := by omega
  have hk2 : (k : Int) < (n : Int) := by omega
  have hi0 : (0 : Int) ≤ (i : Int) := by omega
  have hk0 : (0 : Int) ≤ (k : Int) := by omega
  clear hsl hc hn
  generalize L[i] = x at *
  generalize L[k] = y at *
  clear h hi hk
  obtain ⟨A1, c1, e1, _⟩ := k1.sl.form
  obtain ⟨A2, c2, e2, _⟩ := k2.sl.form
  obtain ⟨r, hr⟩ : ∃ r, r = ordT x y := ⟨_, rfl⟩
  have HO : Hid (∀ X : World, Below w.heap.size w X → Calls Try.prog 36 #[.agg x.cells.toArray, .agg y.cells.toArray] X fun e w' => e = .returned (.int .i64 r) ∧ Below X.heap.size X w') := fun X hX => by
    rw [hr]
    exact (order_any x y w.heap.size X (k1.below hX) (k2.below hX) hX.size).mono fun e w' ⟨he, hg⟩ => ⟨he, grow_bel hg⟩
  have HR : Hid (ltT x y = decide (r < 0)) := by show _ = _; rw [hr]; rfl
  rw [HR.out]
  clear hr k1 k2 HR
  obtain ⟨xa, xk, xb, xf, xt, xw⟩ := x
  obtain ⟨ya, yk, yb, yf, yt, yw⟩ := y
  unfold TV.cells at HO
  simp only at a0 a1 a2 a3 a4 b0 b1 b2 b3 b4 HO e1 e2
  subst e1 e2
  have y1 := Aft.cell t0 htl
  have z0 := Aft.cell a0 hab
  have z1 := Aft.cell a1 hab
  have z2 := Aft.cell a2 hab
  have z3 := Aft.cell a3 hab
  have z4 := Aft.cell a4 hab
  have u0 := Aft.cell b0 hab2
  have u1 := Aft.cell b1 hab2
  have u2 := Aft.cell b2 hab2
  have u3 := Aft.cell b3 hab2
  have u4 := Aft.cell b4 hab2
  clear a0 a1 a2 a3 a4 b0 b1 b2 b3 b4 t0
  go_enter Try.func92, Try.ntmps92
  go_wp2_with fail
  refine wp_region_aft (by kernel_rfl) (by kernel_rfl) ?_
  repeat (go_big_quiet_step (first
    | (go_at_call 36; with_reducible exact calls_aft (HO.out _ (Aft.h _)))))
  refine wpQuiet_nil ?_
  intro w9 hb9
  have HB9 := hide hb9
  clear hb9
  go_wp2_with fail
  go_ret
  exact ⟨rfl, HB9.out⟩

end Go.Proofs.Ytogelnljkdcajaa
