/- cells: same; cells.Table: Commit (printed by gencom15.py). -/
import Derived.Test.YtkobaidamdffmaaQCellsDecodes06
import Derived.Test.YtkobaidamdffmaaQCellsDecodes09
import Derived.Test.YtkobaidamdffmaaQCellsDecodes14

namespace Go.Proofs.Ytkobaidamdffmaa
open Go.RowKit Go.Sort
set_option linter.unusedVariables false
set_option linter.unusedSimpArgs false

abbrev tsT : Nat := 41
theorem tst_eq (n g h : Int) (p b : Bool) (W : World) : (binOp .eql tsT (.agg #[.int .i64 n, .int .i64 g, .int .i64 h, .bool p, .bool b]) (.agg #[.int .i64 n, .int .i64 g, .int .i64 h, .bool p, .bool b])).run Try.prog W = .ok (.bool true) W := by
  go_simp
theorem tst_nq (n g h n' g' h' : Int) (p b p' b' : Bool) (hne : ¬ (n = n' ∧ g = g' ∧ h = h' ∧ p = p' ∧ b = b')) (W : World) : (binOp .eql tsT (.agg #[.int .i64 n, .int .i64 g, .int .i64 h, .bool p, .bool b]) (.agg #[.int .i64 n', .int .i64 g', .int .i64 h', .bool p', .bool b'])).run Try.prog W = .ok (.bool false) W := by
  by_cases h1 : n = n'
  · by_cases h2 : g = g'
    · by_cases h3 : h = h'
      · by_cases h4 : p = p'
        · have h5 : ¬ b = b' := fun h9 => hne ⟨h1, h2, h3, h4, h9⟩
          go_simp
        · go_simp
      · go_simp
    · go_simp
  · go_simp
instance : DecidableEq CD := fun x y => decidable_of_iff (x.b = y.b ∧ x.s = y.s ∧ (x.n = y.n ∧ x.g = y.g ∧ x.h = y.h ∧ x.p = y.p ∧ x.c = y.c)) ⟨fun h => by cases x; cases y; simp_all, fun h => by subst h; exact ⟨rfl, rfl, rfl, rfl, rfl, rfl, rfl⟩⟩
set_option maxHeartbeats 4000000 in
theorem csame_any (xA yA : Option Addr) (xn xc yn yc : Nat) (D E : List Int) (xs xi xg xh ys yi yg yh : Int) (xp xq yp yq : Bool) (B : Nat) (w : World) (h1 : Sl w B (.slice xA xn xc) 1 xn (bys D)) (h2 : Sl w B (.slice yA yn yc) 1 yn (bys E))
    (hl1 : D.length = xn) (hl2 : E.length = yn) (b1 : Bytes8 D) (b2 : Bytes8 E) (hB : B ≤ w.heap.size) :
    Calls Try.prog 41 #[.agg #[.slice xA xn xc, .int .i64 xs, .int .i64 xi, .int .i64 xg, .int .i64 xh, .bool xp, .bool xq], .agg #[.slice yA yn yc, .int .i64 ys, .int .i64 yi, .int .i64 yg, .int .i64 yh, .bool yp, .bool yq]] w fun e w' => e = .returned (.bool (decide ((CD.mk D xs xi xg xh xp xq) = CD.mk E ys yi yg yh yp yq))) ∧ Below w.heap.size w w' := by
  obtain ⟨r, hr⟩ : ∃ r, r = decide ((CD.mk D xs xi xg xh xp xq) = CD.mk E ys yi yg yh yp yq) := ⟨_, rfl⟩
  rw [← hr]
  have HR : Hid (r = decide (D = E ∧ xs = ys ∧ (xi = yi ∧ xg = yg ∧ xh = yh ∧ xp = yp ∧ xq = yq))) := by
    show _ = _
    rw [hr]
    congr 1
    simp
  have HB : Hid (Below w.heap.size w ((w.alloc (.cells #[.slice xA xn xc, .int .i64 xs, .int .i64 xi, .int .i64 xg, .int .i64 xh, .bool xp, .bool xq] cvT)).alloc (.cells #[.slice yA yn yc, .int .i64 ys, .int .i64 yi, .int .i64 yg, .int .i64 yh, .bool yp, .bool yq] cvT))) := ((Below.refl w.heap.size w).alloc (Nat.le_refl _) _).alloc (by simp) _
  have HP : Hid (Blk ((w.alloc (.cells #[.slice xA xn xc, .int .i64 xs, .int .i64 xi, .int .i64 xg, .int .i64 xh, .bool xp, .bool xq] cvT)).alloc (.cells #[.slice yA yn yc, .int .i64 ys, .int .i64 yi, .int .i64 yg, .int .i64 yh, .bool yp, .bool yq] cvT)) w.heap.size cvT #[.slice xA xn xc, .int .i64 xs, .int .i64 xi, .int .i64 xg, .int .i64 xh, .bool xp, .bool xq]) := (Blk.new w _ _).alloc _
  have HQ : Hid (Blk ((w.alloc (.cells #[.slice xA xn xc, .int .i64 xs, .int .i64 xi, .int .i64 xg, .int .i64 xh, .bool xp, .bool xq] cvT)).alloc (.cells #[.slice yA yn yc, .int .i64 ys, .int .i64 yi, .int .i64 yg, .int .i64 yh, .bool yp, .bool yq] cvT)) (w.heap.size + 1) cvT #[.slice yA yn yc, .int .i64 ys, .int .i64 yi, .int .i64 yg, .int .i64 yh, .bool yp, .bool yq]) := by
    have h9 := Blk.new (w.alloc (.cells #[.slice xA xn xc, .int .i64 xs, .int .i64 xi, .int .i64 xg, .int .i64 xh, .bool xp, .bool xq] cvT)) cvT #[.slice yA yn yc, .int .i64 ys, .int .i64 yi, .int .i64 yg, .int .i64 yh, .bool yp, .bool yq]
    simpa [Hid] using h9
  have HC : Hid (∀ W : World, Below w.heap.size w W → Calls Try.prog 58 #[.slice xA xn xc, .slice yA yn yc] W fun e w' => e = .returned (.bool (decide (D = E))) ∧ w' = W) := fun W hW =>
    bequal_any _ _ D E xn yn B W (h1.below (hW.mono hB)) (h2.below (hW.mono hB)) hl1 hl2 b1 b2
  clear hr h1 h2 hl1 hl2 b1 b2
  go_enter Try.func41, Try.ntmps41
  go_upto_region 1 with fail
  change Code.wp _ _ _ _ ((w.alloc (.cells #[.slice xA xn xc, .int .i64 xs, .int .i64 xi, .int .i64 xg, .int .i64 xh, .bool xp, .bool xq] cvT)).alloc (.cells #[.slice yA yn yc, .int .i64 ys, .int .i64 yi, .int .i64 yg, .int .i64 yh, .bool yp, .bool yq] cvT))
  generalize ((w.alloc (.cells #[.slice xA xn xc, .int .i64 xs, .int .i64 xi, .int .i64 xg, .int .i64 xh, .bool xp, .bool xq] cvT)).alloc (.cells #[.slice yA yn yc, .int .i64 ys, .int .i64 yi, .int .i64 yg, .int .i64 yh, .bool yp, .bool yq] cvT)) = w1 at *
  obtain ⟨pb, hpb⟩ : ∃ pb, pb = w.heap.size := ⟨_, rfl⟩
  obtain ⟨qb, hqb⟩ : ∃ qb, qb = w.heap.size + 1 := ⟨_, rfl⟩
  rw [← hqb] at HQ ⊢
  rw [← hpb] at HP ⊢
  clear hpb hqb
  have hp := HP.out.lt
  have hq := HQ.out.lt
  have p0 : w1.cell? ⟨pb, 0, none⟩ = some (.slice xA xn xc) := HP.out.cell 0
  have p1 : w1.cell? ⟨pb, 1, none⟩ = some (.int .i64 xs) := HP.out.cell 1
  have p2 : w1.cell? ⟨pb, 2, none⟩ = some (.int .i64 xi) := HP.out.cell 2
  have p3 : w1.cell? ⟨pb, 3, none⟩ = some (.int .i64 xg) := HP.out.cell 3
  have p4 : w1.cell? ⟨pb, 4, none⟩ = some (.int .i64 xh) := HP.out.cell 4
  have p5 : w1.cell? ⟨pb, 5, none⟩ = some (.bool xp) := HP.out.cell 5
  have p6 : w1.cell? ⟨pb, 6, none⟩ = some (.bool xq) := HP.out.cell 6
  have q0 : w1.cell? ⟨qb, 0, none⟩ = some (.slice yA yn yc) := HQ.out.cell 0
  have q1 : w1.cell? ⟨qb, 1, none⟩ = some (.int .i64 ys) := HQ.out.cell 1
  have q2 : w1.cell? ⟨qb, 2, none⟩ = some (.int .i64 yi) := HQ.out.cell 2
  have q3 : w1.cell? ⟨qb, 3, none⟩ = some (.int .i64 yg) := HQ.out.cell 3
  have q4 : w1.cell? ⟨qb, 4, none⟩ = some (.int .i64 yh) := HQ.out.cell 4
  have q5 : w1.cell? ⟨qb, 5, none⟩ = some (.bool yp) := HQ.out.cell 5
  have q6 : w1.cell? ⟨qb, 6, none⟩ = some (.bool yq) := HQ.out.cell 6
  go_wp2_with fail
  refine (HC.out w1 HB.out).mono ?_
  rintro e w2 ⟨rfl, rfl⟩
  clear HC
  by_cases g1 : D = E
  · rw [decide_eq_true g1]
    by_cases g3 : xs = ys
    · by_cases g4 : xi = yi ∧ xg = yg ∧ xh = yh ∧ xp = yp ∧ xq = yq
      · have HG : Hid (r = true) := by show _ = _; rw [HR.out]; simp only [g1, g3, g4]; simp
        obtain ⟨e1, e2, e3, e4, e5⟩ := g4
        subst g3 e1 e2 e3 e4 e5
        clear HR g1
        go_wp2_with fail
        go_ret
        rw [HG.out]
        exact ⟨by first | rfl | simp, HB.out⟩
      · have HG : Hid (r = false) := by show _ = _; rw [HR.out]; simp only [g4]; simp
        have hne2 : ∀ W : World, (binOp .eql tsT (.agg #[.int .i64 xi, .int .i64 xg, .int .i64 xh, .bool xp, .bool xq]) (.agg #[.int .i64 yi, .int .i64 yg, .int .i64 yh, .bool yp, .bool yq])).run Try.prog W = .ok (.bool false) W := fun W => tst_nq xi xg xh yi yg yh xp xq yp yq g4 W
        clear g4 HR g1
        subst g3
        go_wp2_with fail
        go_ret
        rw [HG.out]
        exact ⟨by first | rfl | simp, HB.out⟩
    · have HG : Hid (r = false) := by show _ = _; rw [HR.out]; simp only [g3]; simp
      clear HR g1
      go_wp2_with fail
      go_ret
      rw [HG.out]
      exact ⟨by first | rfl | simp [g3], HB.out⟩
  · have HG : Hid (r = false) := by show _ = _; rw [HR.out]; simp only [g1]; simp
    rw [decide_eq_false g1]
    clear HR g1
    go_wp2_with fail
    go_ret
    rw [HG.out]
    exact ⟨by first | rfl | simp, HB.out⟩

/-- is it changed? -/
def chg (L : List (PK × CV)) (p : PK × CV) : Bool := match lk L p.1 with | some c => decide (p.2.d ≠ c.d) | none => true
def hasL (L : List (PK × CV)) (q : PK × Int) : Bool := (lk L q.1).isSome
def cntC (L W : List (PK × CV)) (F : List (PK × Int)) : Nat := W.countP (chg L) + F.countP (hasL L)
theorem TabS.unbegin {w : World} {base tb cb : Nat} {wm fm : Option Nat} {bg : Bool} {L W : List (PK × CV)} {F : List (PK × Int)} (h : TabS w base tb cb wm fm bg L W F) :
    TabS (w.setCell ⟨tb, 3, none⟩ (.bool false)) base tb cb wm fm false L [] [] ∧ Fr (fun j => j = tb) w (w.setCell ⟨tb, 3, none⟩ (.bool false)) := by
  have hf : Fr (fun j => j = tb) w (w.setCell ⟨tb, 3, none⟩ (.bool false)) := Fr.put (S := fun j => j = tb) (Fr.refl _ w) (p := ⟨tb, 3, none⟩) (.inl rfl) (.bool false)
  refine ⟨⟨?_, h.map.fr hf (fun e => h.map.ne_blk h.blk e), fun p hp => (h.acc p hp).fr hf (fun g cs hg e => ?_), h.bs, fun e => by cases e⟩, hf⟩
  · have h9 := h.blk.put 3 (.bool false)
    simpa using h9
  · have k := h.blk
    unfold Blk at hg k
    rw [e, k] at hg
    injection hg with hg
    injection hg with _ hg
    exact absurd hg (by decide)

/-- behind Commit -/
def ComP (w : World) (base tb cb : Nat) (wm fm : Option Nat) (bg : Bool) (L W : List (PK × CV)) (F : List (PK × Int)) (e : Ending) (w' : World) : Prop :=
  (bg = false ∧ e = .returned (.tuple #[.int .i64 0, .int .i64 171]) ∧ Below w.heap.size w w') ∨
  (bg = true ∧ e = .returned (.tuple #[.int .i64 (cntC L W F), .int .i64 0]) ∧ TabS w' base tb cb wm fm false L [] [] ∧ Fr (fun j => j = tb) w w')
set_option maxRecDepth 100000 in
set_option maxHeartbeats 8000000 in
theorem ccommit_any (w : World) (base tb cb : Nat) (wm fm : Option Nat) (bg : Bool) (L W : List (PK × CV)) (F : List (PK × Int)) (h : TabS w base tb cb wm fm bg L W F) (hW : W.length ≤ 1000000) (hF : F.length ≤ 1000000) :
    Calls Try.prog 21 #[.pointer (some ⟨tb, 0, none⟩)] w (ComP w base tb cb wm fm bg L W F) := by
  obtain ⟨t0, t1, t2, t3, htl⟩ := h.open
  have HT := hide h
  cases bg with
  | false =>
    clear h
    go_enter Try.func21, Try.ntmps21
    go_wp2_with fail
    go_ret2
    exact .inl ⟨rfl, rfl, Below.refl _ _⟩
  | true =>
    obtain ⟨wb, fb, rfl, rfl, hbeg⟩ := h.beg rfl
    have HMW := hide hbeg.wm
    have HMF := hide hbeg.fm
    have HWA := hide hbeg.acc
    have hwl := hbeg.wm.lt
    have hfl := hbeg.fm.lt
    clear h hbeg
    go_enter Try.func21, Try.ntmps21
    go_wp2_with (at_range; refine wpList_range_it rfl _ rfl cmU rfl HMW.out ?_; intro ob hI0)
    go_frame
    have HI0 : Hid (ItR (w.alloc ob) wb w.heap.size plV cvV W [] ∧ Below w.heap.size w (w.alloc ob)) := ⟨hI0, (Below.refl _ _).alloc (Nat.le_refl _) _⟩
    clear hI0 t0 t1 t2 t3
    go_loopw [4] (fun l wr => ∃ (D : List (PK × CV)) (m : Nat), l = .int .i64 m ∧ m ≤ D.length ∧ D.length ≤ W.length ∧ Hid (m = D.countP (chg L)) ∧ Hid (ItR wr wb w.heap.size plV cvV W D ∧ Below w.heap.size w wr)) (fun _ wr => itLeft wr wb w.heap.size)
    case atStart => exact ⟨[], 0, rfl, Nat.le_refl _, Nat.zero_le _, rfl, HI0.out⟩
    case round =>
    clear HI0
    obtain ⟨D, m, rfl, hmD, hDW, HH, HI⟩ := hrel
    go_wp2_with (at_next; refine wpList_next_it' rfl _ rfl rfl HI.out.1 ?_ ?_)
    · intro hpW
      have HM : Hid (m = W.countP (chg L)) := by rw [Hid, HH.out]; exact (hpW.countP_eq _).symm
      have HTR := hide (HT.out.below HI.out.2)
      have HBR := hide HI.out.2
      have HMF2 := hide (HMF.out.below HI.out.2 hfl)
      have hm6 : m ≤ 1000000 := by omega
      clear hpW HH HI HMW HMF HWA
      have hrs := HBR.out.size
      obtain ⟨t0, t1, t2, t3, _⟩ := HTR.out.open
      have htr := HTR.out.blk.lt
      go_wp2_with (at_range; refine wpList_range_it rfl _ rfl fmU rfl HMF2.out ?_; intro ob2 hJ0)
      go_frame
      have HJ0 : Hid (ItR (wr.alloc ob2) fb wr.heap.size plV intV F [] ∧ Below w.heap.size w (wr.alloc ob2)) := ⟨hJ0, HBR.out.alloc HBR.out.size _⟩
      have HRL : Hid (wr.heap.size = wr.heap.size) := rfl
      clear hJ0 t0 t1 t2 t3
      obtain ⟨rr, hrr⟩ : ∃ rr, rr = wr.heap.size := ⟨_, rfl⟩
      rw [← hrr] at HJ0 ⊢
      have hrw : w.heap.size ≤ rr := by rw [hrr]; exact hrs
      clear hrr HRL
      go_loopw [4] (fun l wz => ∃ (D : List (PK × Int)) (k : Nat), l = .int .i64 ((m + k : Nat) : Int) ∧ k ≤ D.length ∧ D.length ≤ F.length ∧ Hid (k = D.countP (hasL L)) ∧ Hid (ItR wz fb rr plV intV F D ∧ Below w.heap.size w wz)) (fun _ wz => itLeft wz fb rr)
      case atStart => exact ⟨[], 0, rfl, Nat.le_refl _, Nat.zero_le _, rfl, HJ0.out⟩
      case round =>
      clear HJ0 HTR HBR HMF2
      obtain ⟨D, k, rfl, hkD, hDF, HH, HI⟩ := hrel
      go_wp2_with (at_next; refine wpList_next_it' rfl _ rfl rfl HI.out.1 ?_ ?_)
      · intro hpF
        have HK : Hid (k = F.countP (hasL L)) := by rw [Hid, HH.out]; exact (hpF.countP_eq _).symm
        have HTZ := hide (HT.out.below HI.out.2)
        have HBZ := hide HI.out.2
        clear hpF HH HI
        obtain ⟨t0, t1, t2, t3, _⟩ := HTZ.out.open
        have htz := HTZ.out.blk.lt
        have y3 := HTZ.out.blk.frozen 3
        go_wp2_with fail
        go_ret2
        refine .inr ⟨rfl, ?_, HTZ.out.unbegin.1, ((Fr.of_below HBZ.out).trans HTZ.out.unbegin.2 (fun _ _ h => h))⟩
        unfold cntC
        rw [← HM.out, ← HK.out, Int.natCast_add]
        rfl
      · intro w2 kv vv hst
        obtain ⟨pc, hkv, hvv, hp, hI2, hlt, hf2, hsz, hen⟩ := hst
        obtain ⟨p, z⟩ := pc
        obtain ⟨dA, dn, dc, hdv⟩ := gv_form HT.out.acc p
        have HLL0 : Hid (∀ X : World, Below w.heap.size w X → (Instr.lookup cmT (.map (some cb)) (plV p) true).run Try.prog X = .ok (.tuple #[cvV (gv (lk L p)), .bool (lk L p).isSome]) X) := fun X hX => by
          have h9 := (HT.out.map.below hX HT.out.map.lt).look plW cmU zeroCv p true (P := Try.prog)
          rw [gv_eq] at h9
          exact h9
        have HPV : Hid (plV p = .agg #[.string (strOfNums p.b), .int .i64 p.f, .int .i64 p.t]) := rfl
        have hkv2 : kv = .agg #[.string (strOfNums p.b), .int .i64 p.f, .int .i64 p.t] := hkv
        have hvv2 : vv = .int .i64 z := hvv
        clear hkv hvv hp
        subst hkv2 hvv2
        obtain ⟨L7, hL7⟩ : ∃ L7, L7 = gv (lk L p) := ⟨_, rfl⟩
        rw [← hL7] at HLL0 hdv
        obtain ⟨kL, hkl⟩ : ∃ kL, kL = (lk L p).isSome := ⟨_, rfl⟩
        have HKL := hide hkl
        rw [← hkl] at HLL0
        clear hL7 hkl
        obtain ⟨dv, dD, ds, di, dg, dh, dp, dq⟩ := L7
        simp only at hdv
        subst hdv
        unfold cvV CV.cells at HLL0
        simp only at HLL0
        rw [HPV.out] at HLL0
        obtain ⟨ps, hps⟩ : ∃ ps, ps = strOfNums p.b := ⟨_, rfl⟩
        obtain ⟨pf, hpf⟩ : ∃ pf, pf = p.f := ⟨_, rfl⟩
        obtain ⟨pt, hpt⟩ : ∃ pt, pt = p.t := ⟨_, rfl⟩
        rw [← hps, ← hpf, ← hpt] at HLL0 hen ⊢
        clear hps hpf hpt HPV
        obtain ⟨D2, hD2⟩ : ∃ D2, D2 = D ++ [(p, z)] := ⟨_, rfl⟩
        have HD2 : Hid (D2.length = D.length + 1 ∧ D2.countP (hasL L) = k + (if kL then 1 else 0)) := by
          rw [hD2, HH.out]
          refine ⟨by simp, ?_⟩
          rw [List.countP_append, List.countP_cons, List.countP_nil, Nat.zero_add, show hasL L (p, z) = kL from HKL.out.symm]
        rw [← hD2] at hI2
        clear hD2 HH
        have HI3 : Hid (∀ (o : Obj), ItR (w2.alloc o) fb rr plV intV F D2 ∧ Below w.heap.size w (w2.alloc o)) := fun o =>
          ⟨hI2.below ((Below.refl _ _).alloc (Nat.le_refl _) o) hI2.lt.1 hI2.lt.2, (HI.out.2.trans (hf2.below HI.out.2.size (fun k hk e => by omega))).alloc (by rw [hsz]; exact HI.out.2.size) o⟩
        have HL : Hid (∀ wy, ItR wy fb rr plV intV F D2 → itLeft wy fb rr < itLeft wr fb rr) := fun wy hz => by
          rw [hz.left_eq, HI.out.1.left_eq, HD2.out.1]
          omega
        clear hsz hf2 hI2
        go_upto_region 13 with fail
        have HB3 : Hid (Below w.heap.size w (w2.alloc (.cells #[.string ps, .int .i64 pf, .int .i64 pt] plT))) := (HI3.out _).2
        have HI4 := hide (HI3.out (.cells #[.string ps, .int .i64 pf, .int .i64 pt] plT)).1
        have HPB : Hid (Blk (w2.alloc (.cells #[.string ps, .int .i64 pf, .int .i64 pt] plT)) w2.heap.size plT #[.string ps, .int .i64 pf, .int .i64 pt]) := Blk.new w2 _ _
        change Code.wp _ _ _ _ (w2.alloc (.cells #[.string ps, .int .i64 pf, .int .i64 pt] plT))
        generalize (w2.alloc (.cells #[.string ps, .int .i64 pf, .int .i64 pt] plT)) = w3 at *
        generalize w2.heap.size = pb at *
        clear HI3 hen
        have HLL : Hid (∀ X : World, Below w3.heap.size w3 X → (Instr.lookup cmT (.map (some cb)) (.agg #[.string ps, .int .i64 pf, .int .i64 pt]) true).run Try.prog X = .ok (.tuple #[.agg #[.slice dA dn dc, .int .i64 ds, .int .i64 di, .int .i64 dg, .int .i64 dh, .bool dp, .bool dq], .bool kL]) X) := fun X hX => HLL0.out X (HB3.out.trans (hX.mono HB3.out.size))
        have HS : Hid (∀ X : World, Below w3.heap.size w3 X → (fun X : World => X.cell? ⟨tb, 0, none⟩ = some (.map (some cb)) ∧ X.cell? ⟨pb, 0, none⟩ = some (.string ps) ∧ X.cell? ⟨pb, 1, none⟩ = some (.int .i64 pf) ∧ X.cell? ⟨pb, 2, none⟩ = some (.int .i64 pt) ∧ (Instr.lookup cmT (.map (some cb)) (.agg #[.string ps, .int .i64 pf, .int .i64 pt]) true).run Try.prog X = .ok (.tuple #[.agg #[.slice dA dn dc, .int .i64 ds, .int .i64 di, .int .i64 dg, .int .i64 dh, .bool dp, .bool dq], .bool kL]) X) X) := fun X hX => by
          have h1 := (HT.out.below HB3.out).below hX
          have h2 := HPB.out.below hX HPB.out.lt
          exact ⟨h1.blk.cell 0, h2.cell 0, h2.cell 1, h2.cell 2, HLL.out X hX⟩
        have HD1 : Hid (∀ X : World, Below w3.heap.size w3 X → Below w3.heap.size w3 X.drew) := fun X hX => hX.drewN 1
        have HA1 : Hid (∀ (X : World) (o : Obj), Below w3.heap.size w3 X → Below w3.heap.size w3 (X.alloc o)) := fun X o hX => hX.alloc hX.size o
        have HR1 := hide (Below.refl w3.heap.size w3)
        have HZ7 : Hid (∀ (X : World) (nb : Nat) (a b c d e f g : Value), X.heap.size = nb → Below w3.heap.size w3 X → Below w3.heap.size w3 ((((((((X.alloc (.cells #[.slice none 0 0, .int .i64 0, .int .i64 0, .int .i64 0, .int .i64 0, .bool false, .bool false] cvT)).setCell ⟨nb, 0, none⟩ a).setCell ⟨nb, 1, none⟩ b).setCell ⟨nb, 2, none⟩ c).setCell ⟨nb, 3, none⟩ d).setCell ⟨nb, 4, none⟩ e).setCell ⟨nb, 5, none⟩ f).setCell ⟨nb, 6, none⟩ g) ∧ Blk ((((((((X.alloc (.cells #[.slice none 0 0, .int .i64 0, .int .i64 0, .int .i64 0, .int .i64 0, .bool false, .bool false] cvT)).setCell ⟨nb, 0, none⟩ a).setCell ⟨nb, 1, none⟩ b).setCell ⟨nb, 2, none⟩ c).setCell ⟨nb, 3, none⟩ d).setCell ⟨nb, 4, none⟩ e).setCell ⟨nb, 5, none⟩ f).setCell ⟨nb, 6, none⟩ g) nb cvT #[a, b, c, d, e, f, g] ∧ w3.heap.size ≤ nb) := fun X nb a b c d e f g hn hX => by
          subst hn
          exact ⟨put7_below (hX.alloc hX.size _) hX.size _ _ _ _ _ _ _, put7_blk (Blk.new X _ _) _ _ _ _ _ _ _, hX.size⟩
        go_cut [10, 11] from 55 to 63 (fun q7 q8 wx => ∃ nb, q7 = .pointer (some ⟨nb, 0, none⟩) ∧ q8 = .bool kL ∧ Hid (Below w3.heap.size w3 wx ∧ Blk wx nb cvT #[.slice dA dn dc, .int .i64 ds, .int .i64 di, .int .i64 dg, .int .i64 dh, .bool dp, .bool dq] ∧ w3.heap.size ≤ nb))
        case first =>
          obtain ⟨s0, s1, s2, s3, s4⟩ := HS.out w3 HR1.out
          go_region_held3 (fun X : World => X.cell? ⟨tb, 0, none⟩ = some (.map (some cb)) ∧ X.cell? ⟨pb, 0, none⟩ = some (.string ps) ∧ X.cell? ⟨pb, 1, none⟩ = some (.int .i64 pf) ∧ X.cell? ⟨pb, 2, none⟩ = some (.int .i64 pt) ∧ (Instr.lookup cmT (.map (some cb)) (.agg #[.string ps, .int .i64 pf, .int .i64 pt]) true).run Try.prog X = .ok (.tuple #[.agg #[.slice dA dn dc, .int .i64 ds, .int .i64 di, .int .i64 dg, .int .i64 dh, .bool dp, .bool dq], .bool kL]) X) (first
            | with_reducible exact HS.out _ (HD1.out _ HR1.out)
            | with_reducible exact HS.out _ (HA1.out _ _ (HD1.out _ HR1.out))
            | with_reducible exact HS.out _ (HD1.out _ (HA1.out _ _ HR1.out))
            | with_reducible exact HS.out _ (HA1.out _ _ HR1.out)
            | with_reducible exact HS.out _ HR1.out
            | exact HS.out _ (HZ7.out _ _ _ _ _ _ _ _ _ rfl (HD1.out _ HR1.out)).1) (fail)
          all_goals
            go_wp2_with fail
            go_meet
            case rel => first
              | with_reducible exact ⟨_, rfl, rfl, hide ⟨HD1.out _ (HA1.out _ _ HR1.out), (Blk.new _ _ _).drew, HR1.out.size⟩⟩
              | with_reducible exact ⟨_, rfl, rfl, hide ⟨HA1.out _ _ (HD1.out _ HR1.out), Blk.new _ _ _, (HD1.out _ HR1.out).size⟩⟩
              | with_reducible exact ⟨_, rfl, rfl, hide (HZ7.out _ _ _ _ _ _ _ _ _ rfl (HD1.out _ HR1.out))⟩
        case rest =>
        obtain ⟨nb, rfl, rfl, HQ⟩ := hcut
        clear HLL HS HD1 HA1 HR1 HZ7
        have HB4 := hide (HB3.out.trans (HQ.out.1.mono HB3.out.size))
        have HI5 := hide (HI4.out.below HQ.out.1 HI4.out.lt.1 HI4.out.lt.2)
        clear HQ HB3 HI4 HPB HLL0
        cases kL with
        | false =>
          have HC1 : Hid (D2.countP (hasL L) = k) := HD2.out.2
          go_wp2_with fail
          go_roundw
          case rel => exact ⟨D2, k, rfl, by have := HD2.out.1; omega, by have := HD2.out.1; omega, HC1.out.symm, HI5.out, HB4.out⟩
          case measure => exact HL.out _ HI5.out
        | true =>
          have HC1 : Hid (D2.countP (hasL L) = k + 1) := HD2.out.2
          go_wp2_with fail
          go_roundw
          case rel => exact ⟨D2, k + 1, by first | rfl | (congr 1; omega) | (simp; omega), by have := HD2.out.1; omega, by have := HD2.out.1; omega, HC1.out.symm, HI5.out, HB4.out⟩
          case measure => exact HL.out _ HI5.out
    · intro w2 kv vv hst
      obtain ⟨pc, hkv, hvv, hp, hI2, hlt, hf2, hsz, hen⟩ := hst
      have hacc := (HWA.out pc hp)
      obtain ⟨cA, cc, hvs, _⟩ := hacc.1.sl.form
      obtain ⟨p, ⟨cv, ⟨cD, cs, ci, cg, ch, cp, cq⟩⟩⟩ := pc
      simp only at hvs
      subst hvs
      obtain ⟨dA, dn, dc, hdv⟩ := gv_form HT.out.acc p
      have HLL0 : Hid (∀ X : World, Below w.heap.size w X → (Instr.lookup cmT (.map (some cb)) (plV p) true).run Try.prog X = .ok (.tuple #[cvV (gv (lk L p)), .bool (lk L p).isSome]) X) := fun X hX => by
        have h9 := (HT.out.map.below hX HT.out.map.lt).look plW cmU zeroCv p true (P := Try.prog)
        rw [gv_eq] at h9
        exact h9
      have HPV : Hid (plV p = .agg #[.string (strOfNums p.b), .int .i64 p.f, .int .i64 p.t]) := rfl
      have hkv2 : kv = .agg #[.string (strOfNums p.b), .int .i64 p.f, .int .i64 p.t] := hkv
      have hvv2 : vv = .agg #[.slice cA cD.length cc, .int .i64 cs, .int .i64 ci, .int .i64 cg, .int .i64 ch, .bool cp, .bool cq] := hvv
      clear hkv hvv hp
      subst hkv2 hvv2
      have HCH : Hid (chg L (p, (⟨.slice cA cD.length cc, ⟨cD, cs, ci, cg, ch, cp, cq⟩⟩ : CV)) = match lk L p with | some c => decide (CD.mk cD cs ci cg ch cp cq ≠ c.d) | none => true) := rfl
      have HGA : Hid (∀ c, lk L p = some c → AccO w base c ∧ gv (lk L p) = c) := fun c hc => ⟨HT.out.acc _ (lk_mem hc), by rw [hc]; rfl⟩
      obtain ⟨L7, hL7⟩ : ∃ L7, L7 = gv (lk L p) := ⟨_, rfl⟩
      rw [← hL7] at HLL0 hdv HGA
      obtain ⟨kL, hkl⟩ : ∃ kL, kL = (lk L p).isSome := ⟨_, rfl⟩
      have HKL := hide hkl
      rw [← hkl] at HLL0
      clear hL7 hkl
      obtain ⟨dv, dD, ds, di, dg, dh, dp, dq⟩ := L7
      simp only at hdv
      subst hdv
      unfold cvV CV.cells at HLL0
      simp only at HLL0
      rw [HPV.out] at HLL0
      obtain ⟨ps, hps⟩ : ∃ ps, ps = strOfNums p.b := ⟨_, rfl⟩
      obtain ⟨pf, hpf⟩ : ∃ pf, pf = p.f := ⟨_, rfl⟩
      obtain ⟨pt, hpt⟩ : ∃ pt, pt = p.t := ⟨_, rfl⟩
      rw [← hps, ← hpf, ← hpt] at HLL0 hen ⊢
      clear hps hpf hpt HPV
      obtain ⟨cn, hcn⟩ : ∃ n, n = cD.length := ⟨_, rfl⟩
      have HCN := hide hcn
      have HCA : Hid (∀ X : World, Below w.heap.size w X → Sl X w.heap.size (.slice cA cn cc) 1 cn (bys cD)) := fun X hX => by have h9 := hacc.1.sl.below hX; simp only at h9; rw [← hcn] at h9; exact h9
      have HC8 : Hid (Bytes8 cD) := hacc.2.1
      obtain ⟨D2, hD2⟩ : ∃ D2, D2 = D ++ [(p, (⟨.slice cA cD.length cc, ⟨cD, cs, ci, cg, ch, cp, cq⟩⟩ : CV))] := ⟨_, rfl⟩
      have HD2 : Hid (D2.length = D.length + 1 ∧ D2.countP (chg L) = m + (if chg L (p, (⟨.slice cA cD.length cc, ⟨cD, cs, ci, cg, ch, cp, cq⟩⟩ : CV)) then 1 else 0)) := by
        rw [hD2, HH.out]
        refine ⟨by simp, ?_⟩
        rw [List.countP_append, List.countP_cons, List.countP_nil, Nat.zero_add]
      rw [← hD2] at hI2
      rw [← hcn] at hen ⊢
      clear hacc hD2 hcn HH
      have HI3 : Hid (∀ (o o' : Obj), ItR ((w2.alloc o).alloc o') wb w.heap.size plV cvV W D2 ∧ Below w.heap.size w ((w2.alloc o).alloc o')) := fun o o' =>
        ⟨(hI2.below ((Below.refl _ _).alloc (Nat.le_refl _) o) hI2.lt.1 hI2.lt.2).below ((Below.refl _ _).alloc (Nat.le_refl _) o') (by simp; have := hI2.lt.1; omega) (by simp; have := hI2.lt.2; omega), ((HI.out.2.trans (hf2.below HI.out.2.size (fun k hk e => by omega))).alloc (by rw [hsz]; exact HI.out.2.size) o).alloc (by simp; rw [hsz]; have := HI.out.2.size; omega) o'⟩
      have HL : Hid (∀ wz, ItR wz wb w.heap.size plV cvV W D2 → itLeft wz wb w.heap.size < itLeft wr wb w.heap.size) := fun wz hz => by
        rw [hz.left_eq, HI.out.1.left_eq, HD2.out.1]
        omega
      clear hsz hf2 hI2
      go_upto_region 7 with fail
      have HB3 : Hid (Below w.heap.size w ((w2.alloc (.cells #[.string ps, .int .i64 pf, .int .i64 pt] plT)).alloc (.cells #[.slice cA cn cc, .int .i64 cs, .int .i64 ci, .int .i64 cg, .int .i64 ch, .bool cp, .bool cq] cvT))) := (HI3.out _ _).2
      have HI4 := hide (HI3.out (.cells #[.string ps, .int .i64 pf, .int .i64 pt] plT) (.cells #[.slice cA cn cc, .int .i64 cs, .int .i64 ci, .int .i64 cg, .int .i64 ch, .bool cp, .bool cq] cvT)).1
      have HPB : Hid (Blk ((w2.alloc (.cells #[.string ps, .int .i64 pf, .int .i64 pt] plT)).alloc (.cells #[.slice cA cn cc, .int .i64 cs, .int .i64 ci, .int .i64 cg, .int .i64 ch, .bool cp, .bool cq] cvT)) w2.heap.size plT #[.string ps, .int .i64 pf, .int .i64 pt]) := (Blk.new w2 _ _).alloc _
      have HVB : Hid (Blk ((w2.alloc (.cells #[.string ps, .int .i64 pf, .int .i64 pt] plT)).alloc (.cells #[.slice cA cn cc, .int .i64 cs, .int .i64 ci, .int .i64 cg, .int .i64 ch, .bool cp, .bool cq] cvT)) (w2.heap.size + 1) cvT #[.slice cA cn cc, .int .i64 cs, .int .i64 ci, .int .i64 cg, .int .i64 ch, .bool cp, .bool cq]) := by
        have h9 := Blk.new (w2.alloc (.cells #[.string ps, .int .i64 pf, .int .i64 pt] plT)) cvT #[.slice cA cn cc, .int .i64 cs, .int .i64 ci, .int .i64 cg, .int .i64 ch, .bool cp, .bool cq]
        simpa [Hid] using h9
      change Code.wp _ _ _ _ ((w2.alloc (.cells #[.string ps, .int .i64 pf, .int .i64 pt] plT)).alloc (.cells #[.slice cA cn cc, .int .i64 cs, .int .i64 ci, .int .i64 cg, .int .i64 ch, .bool cp, .bool cq] cvT))
      generalize ((w2.alloc (.cells #[.string ps, .int .i64 pf, .int .i64 pt] plT)).alloc (.cells #[.slice cA cn cc, .int .i64 cs, .int .i64 ci, .int .i64 cg, .int .i64 ch, .bool cp, .bool cq] cvT)) = w3 at *
      obtain ⟨vb, hvb⟩ : ∃ vb, vb = w2.heap.size + 1 := ⟨_, rfl⟩
      rw [← hvb] at HVB ⊢
      clear hvb
      generalize w2.heap.size = pb at *
      clear HI3 hen
      have HLL : Hid (∀ X : World, Below w3.heap.size w3 X → (Instr.lookup cmT (.map (some cb)) (.agg #[.string ps, .int .i64 pf, .int .i64 pt]) true).run Try.prog X = .ok (.tuple #[.agg #[.slice dA dn dc, .int .i64 ds, .int .i64 di, .int .i64 dg, .int .i64 dh, .bool dp, .bool dq], .bool kL]) X) := fun X hX => HLL0.out X (HB3.out.trans (hX.mono HB3.out.size))
      have HS : Hid (∀ X : World, Below w3.heap.size w3 X → (fun X : World => X.cell? ⟨tb, 0, none⟩ = some (.map (some cb)) ∧ X.cell? ⟨pb, 0, none⟩ = some (.string ps) ∧ X.cell? ⟨pb, 1, none⟩ = some (.int .i64 pf) ∧ X.cell? ⟨pb, 2, none⟩ = some (.int .i64 pt) ∧ (Instr.lookup cmT (.map (some cb)) (.agg #[.string ps, .int .i64 pf, .int .i64 pt]) true).run Try.prog X = .ok (.tuple #[.agg #[.slice dA dn dc, .int .i64 ds, .int .i64 di, .int .i64 dg, .int .i64 dh, .bool dp, .bool dq], .bool kL]) X) X) := fun X hX => by
        have h1 := (HT.out.below HB3.out).below hX
        have h2 := HPB.out.below hX HPB.out.lt
        exact ⟨h1.blk.cell 0, h2.cell 0, h2.cell 1, h2.cell 2, HLL.out X hX⟩
      have HD1 : Hid (∀ X : World, Below w3.heap.size w3 X → Below w3.heap.size w3 X.drew) := fun X hX => hX.drewN 1
      have HA1 : Hid (∀ (X : World) (o : Obj), Below w3.heap.size w3 X → Below w3.heap.size w3 (X.alloc o)) := fun X o hX => hX.alloc hX.size o
      have HR1 := hide (Below.refl w3.heap.size w3)
      have HZ7 : Hid (∀ (X : World) (nb : Nat) (a b c d e f g : Value), X.heap.size = nb → Below w3.heap.size w3 X → Below w3.heap.size w3 ((((((((X.alloc (.cells #[.slice none 0 0, .int .i64 0, .int .i64 0, .int .i64 0, .int .i64 0, .bool false, .bool false] cvT)).setCell ⟨nb, 0, none⟩ a).setCell ⟨nb, 1, none⟩ b).setCell ⟨nb, 2, none⟩ c).setCell ⟨nb, 3, none⟩ d).setCell ⟨nb, 4, none⟩ e).setCell ⟨nb, 5, none⟩ f).setCell ⟨nb, 6, none⟩ g) ∧ Blk ((((((((X.alloc (.cells #[.slice none 0 0, .int .i64 0, .int .i64 0, .int .i64 0, .int .i64 0, .bool false, .bool false] cvT)).setCell ⟨nb, 0, none⟩ a).setCell ⟨nb, 1, none⟩ b).setCell ⟨nb, 2, none⟩ c).setCell ⟨nb, 3, none⟩ d).setCell ⟨nb, 4, none⟩ e).setCell ⟨nb, 5, none⟩ f).setCell ⟨nb, 6, none⟩ g) nb cvT #[a, b, c, d, e, f, g] ∧ w3.heap.size ≤ nb) := fun X nb a b c d e f g hn hX => by
        subst hn
        exact ⟨put7_below (hX.alloc hX.size _) hX.size _ _ _ _ _ _ _, put7_blk (Blk.new X _ _) _ _ _ _ _ _ _, hX.size⟩
      go_cut [7, 8] from 27 to 35 (fun q7 q8 wx => ∃ nb, q7 = .pointer (some ⟨nb, 0, none⟩) ∧ q8 = .bool kL ∧ Hid (Below w3.heap.size w3 wx ∧ Blk wx nb cvT #[.slice dA dn dc, .int .i64 ds, .int .i64 di, .int .i64 dg, .int .i64 dh, .bool dp, .bool dq] ∧ w3.heap.size ≤ nb))
      case first =>
        obtain ⟨s0, s1, s2, s3, s4⟩ := HS.out w3 HR1.out
        go_region_held3 (fun X : World => X.cell? ⟨tb, 0, none⟩ = some (.map (some cb)) ∧ X.cell? ⟨pb, 0, none⟩ = some (.string ps) ∧ X.cell? ⟨pb, 1, none⟩ = some (.int .i64 pf) ∧ X.cell? ⟨pb, 2, none⟩ = some (.int .i64 pt) ∧ (Instr.lookup cmT (.map (some cb)) (.agg #[.string ps, .int .i64 pf, .int .i64 pt]) true).run Try.prog X = .ok (.tuple #[.agg #[.slice dA dn dc, .int .i64 ds, .int .i64 di, .int .i64 dg, .int .i64 dh, .bool dp, .bool dq], .bool kL]) X) (first
          | with_reducible exact HS.out _ (HD1.out _ HR1.out)
          | with_reducible exact HS.out _ (HA1.out _ _ (HD1.out _ HR1.out))
          | with_reducible exact HS.out _ (HD1.out _ (HA1.out _ _ HR1.out))
          | with_reducible exact HS.out _ (HA1.out _ _ HR1.out)
          | with_reducible exact HS.out _ HR1.out
          | exact HS.out _ (HZ7.out _ _ _ _ _ _ _ _ _ rfl (HD1.out _ HR1.out)).1) (fail)
        all_goals
          go_wp2_with fail
          go_meet
          case rel => first
            | with_reducible exact ⟨_, rfl, rfl, hide ⟨HD1.out _ (HA1.out _ _ HR1.out), (Blk.new _ _ _).drew, HR1.out.size⟩⟩
            | with_reducible exact ⟨_, rfl, rfl, hide ⟨HA1.out _ _ (HD1.out _ HR1.out), Blk.new _ _ _, (HD1.out _ HR1.out).size⟩⟩
            | with_reducible exact ⟨_, rfl, rfl, hide (HZ7.out _ _ _ _ _ _ _ _ _ rfl (HD1.out _ HR1.out))⟩
      case rest =>
      obtain ⟨nb, rfl, rfl, HQ⟩ := hcut
      clear HLL HS HD1 HA1 HR1 HZ7
      have HB4 := hide (HB3.out.trans (HQ.out.1.mono HB3.out.size))
      have HI5 := hide (HI4.out.below HQ.out.1 HI4.out.lt.1 HI4.out.lt.2)
      have HVB2 := hide (HVB.out.below HQ.out.1 HVB.out.lt)
      have HNB2 := hide HQ.out.2.1
      clear HQ HB3 HI4 HVB HPB HLL0
      cases kL with
      | false =>
        have HC1 : Hid (D2.countP (chg L) = m + 1) := by
          have h9 : lk L p = none := by
            cases h8 : lk L p with
            | none => rfl
            | some c => have h7 := HKL.out; rw [h8] at h7; cases h7
          rw [Hid, HD2.out.2, HCH.out, h9]
          rfl
        clear HVB2 HNB2
        go_wp2_with fail
        go_roundw
        case rel => exact ⟨D2, m + 1, by simp, by have := HD2.out.1; omega, by have := HD2.out.1; omega, HC1.out.symm, HI5.out, HB4.out⟩
        case measure => exact HL.out _ HI5.out
      | true =>
        have HLE : Hid (∃ c, lk L p = some c) := by
          cases h8 : lk L p with
          | none => have h7 := HKL.out; rw [h8] at h7; cases h7
          | some c => exact ⟨c, rfl⟩
        obtain ⟨c, hc⟩ := HLE.out
        obtain ⟨hac, rfl⟩ := HGA.out c hc
        have hdn : dn = dD.length := by
          obtain ⟨A9, c9, h9, _⟩ := hac.1.sl.form
          injection h9
        have HSM : Hid (∀ X : World, Below w.heap.size w X → Calls Try.prog 41 #[.agg #[.slice cA cn cc, .int .i64 cs, .int .i64 ci, .int .i64 cg, .int .i64 ch, .bool cp, .bool cq], .agg #[.slice dA dn dc, .int .i64 ds, .int .i64 di, .int .i64 dg, .int .i64 dh, .bool dp, .bool dq]] X fun e w' => e = .returned (.bool (decide (CD.mk cD cs ci cg ch cp cq = CD.mk dD ds di dg dh dp dq))) ∧ Below X.heap.size X w') := fun X hX =>
          csame_any cA dA cn cc dn dc cD dD cs ci cg ch ds di dg dh cp cq dp dq w.heap.size X (HCA.out X hX) (by have h9 := hac.1.sl.below hX; simp only at h9; rw [← hdn] at h9; exact h9) HCN.out.symm hdn.symm HC8.out hac.2.1 hX.size
        obtain ⟨sm, hsm⟩ : ∃ sm, sm = decide (CD.mk cD cs ci cg ch cp cq = CD.mk dD ds di dg dh dp dq) := ⟨_, rfl⟩
        have HCG : Hid (D2.countP (chg L) = m + (if sm then 0 else 1)) := by
          rw [Hid, HD2.out.2, HCH.out, hc, hsm]
          by_cases h9 : CD.mk cD cs ci cg ch cp cq = CD.mk dD ds di dg dh dp dq <;> simp [h9]
        rw [← hsm] at HSM
        clear hsm hc hac hdn HLE HGA
        have e0 : wc.cell? ⟨vb, 0, none⟩ = some (.slice cA cn cc) := HVB2.out.cell 0
        have e1 : wc.cell? ⟨vb, 1, none⟩ = some (.int .i64 cs) := HVB2.out.cell 1
        have e2 : wc.cell? ⟨vb, 2, none⟩ = some (.int .i64 ci) := HVB2.out.cell 2
        have e3 : wc.cell? ⟨vb, 3, none⟩ = some (.int .i64 cg) := HVB2.out.cell 3
        have e4 : wc.cell? ⟨vb, 4, none⟩ = some (.int .i64 ch) := HVB2.out.cell 4
        have e5 : wc.cell? ⟨vb, 5, none⟩ = some (.bool cp) := HVB2.out.cell 5
        have e6 : wc.cell? ⟨vb, 6, none⟩ = some (.bool cq) := HVB2.out.cell 6
        have g0 : wc.cell? ⟨nb, 0, none⟩ = some (.slice dA dn dc) := HNB2.out.cell 0
        have g1 : wc.cell? ⟨nb, 1, none⟩ = some (.int .i64 ds) := HNB2.out.cell 1
        have g2 : wc.cell? ⟨nb, 2, none⟩ = some (.int .i64 di) := HNB2.out.cell 2
        have g3 : wc.cell? ⟨nb, 3, none⟩ = some (.int .i64 dg) := HNB2.out.cell 3
        have g4 : wc.cell? ⟨nb, 4, none⟩ = some (.int .i64 dh) := HNB2.out.cell 4
        have g5 : wc.cell? ⟨nb, 5, none⟩ = some (.bool dp) := HNB2.out.cell 5
        have g6 : wc.cell? ⟨nb, 6, none⟩ = some (.bool dq) := HNB2.out.cell 6
        have hvl := HVB2.out.lt
        have hnl := HNB2.out.lt
        go_wp2_with fail
        refine (HSM.out wc HB4.out).mono ?_
        rintro e wx ⟨rfl, hbx⟩
        have HI6 : Hid (ItR wx wb w.heap.size plV cvV W D2 ∧ Below w.heap.size w wx) := ⟨HI5.out.below hbx HI5.out.lt.1 HI5.out.lt.2, HB4.out.trans (hbx.mono HB4.out.size)⟩
        clear hbx HI5 HB4 HVB2 HNB2 hvl hnl e0 e1 e2 e3 e4 e5 e6 g0 g1 g2 g3 g4 g5 g6 HSM
        cases sm with
        | true =>
          have HC1 : Hid (D2.countP (chg L) = m) := HCG.out
          go_wp2_with fail
          go_roundw
          case rel => exact ⟨D2, m, rfl, by have := HD2.out.1; omega, by have := HD2.out.1; omega, HC1.out.symm, HI6.out⟩
          case measure => exact HL.out _ HI6.out.1
        | false =>
          have HC1 : Hid (D2.countP (chg L) = m + 1) := HCG.out
          go_wp2_with fail
          go_roundw
          case rel => exact ⟨D2, m + 1, by simp, by have := HD2.out.1; omega, by have := HD2.out.1; omega, HC1.out.symm, HI6.out⟩
          case measure => exact HL.out _ HI6.out.1
end Go.Proofs.Ytkobaidamdffmaa
