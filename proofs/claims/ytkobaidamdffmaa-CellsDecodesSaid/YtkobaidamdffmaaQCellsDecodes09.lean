/- cells.Table: Get. (printed by gencell5.py) -/
import Derived.Test.YtkobaidamdffmaaQCellsDecodes08

namespace Go.Proofs.Ytkobaidamdffmaa
open Go.RowKit Go.Sort
set_option linter.unusedVariables false
set_option linter.unusedSimpArgs false

/-- what Get gives -/
def GetP (w : World) (d : CD) (is_ : Bool) (e : Ending) (w' : World) : Prop :=
  ∃ (uA : Option Addr) (uc : Nat), e = .returned (.tuple #[.agg #[.slice uA d.b.length uc, .int .i64 d.s, .int .i64 d.n, .int .i64 d.g, .int .i64 d.h, .bool d.p, .bool d.c], .bool is_]) ∧ Own w' w.heap.size bT 1 (.slice uA d.b.length uc) d.b.length (bys d.b) ∧ Below w.heap.size w w'
set_option maxRecDepth 100000 in
set_option maxHeartbeats 8000000 in
theorem cget_any (w : World) (base tb cb B kn kc : Nat) (wm fm : Option Nat) (bg : Bool) (L W : List (PK × CV)) (F : List (PK × Int)) (kA : Option Addr) (p : PK) (h : TabS w base tb cb wm fm bg L W F)
    (hk : Sl w B (.slice kA kn kc) 1 kn (bys p.b)) (hkn : p.b.length = kn) (hB : B ≤ w.heap.size) :
    Calls Try.prog 14 #[.pointer (some ⟨tb, 0, none⟩), .agg #[.slice kA kn kc, .int .i64 p.f, .int .i64 p.t]] w (GetP w (gv (lk L p)).d (lk L p).isSome) := by
  have HT := hide h
  have HK := hide hk
  have HKN := hide hkn
  have HPV : Hid (plV p = .agg #[.string (strOfNums p.b), .int .i64 p.f, .int .i64 p.t]) := rfl
  obtain ⟨LA, Ln, Lc, hlv⟩ := gv_form h.acc p
  have HSL : Hid (∀ X : World, Below w.heap.size w X → Sl X w.heap.size (gv (lk L p)).v 1 (gv (lk L p)).d.b.length (bys (gv (lk L p)).d.b) ∧ (gv (lk L p)).d.b.length ≤ 140737488355328) := fun X hX => by
    cases hl : lk L p with
    | none => exact ⟨Sl.nil X _ _, by simp [gv]⟩
    | some c =>
      have h9 := h.acc _ (lk_mem hl)
      exact ⟨(h9.1.sl).below hX, Nat.le_trans h9.2.2.1 (by decide)⟩
  have HLL0 : Hid (∀ X : World, Below w.heap.size w X → (Instr.lookup cmT (.map (some cb)) (plV p) true).run Try.prog X = .ok (.tuple #[cvV (gv (lk L p)), .bool (lk L p).isSome]) X) := fun X hX => by
    have h9 := (h.map.below hX h.map.lt).look plW cmU zeroCv p true (P := Try.prog)
    rw [gv_eq] at h9
    exact h9
  obtain ⟨L7, hL7⟩ : ∃ L7, L7 = gv (lk L p) := ⟨_, rfl⟩
  rw [← hL7] at HLL0 hlv HSL ⊢
  obtain ⟨kL, hkl⟩ : ∃ kL, kL = (lk L p).isSome := ⟨_, rfl⟩
  rw [← hkl] at HLL0 ⊢
  clear hL7 hkl
  obtain ⟨lv, lb, ls, ln, lg, lh, lp, lc⟩ := L7
  simp only at hlv HSL
  subst hlv
  have hLn : lb.length = Ln := by
    obtain ⟨A9, c9, h9, _⟩ := (HSL.out w (Below.refl _ _)).1.form
    injection h9 with _ h9 _
    exact h9.symm
  have HLN := hide hLn
  rw [hLn] at HSL
  unfold cvV CV.cells at HLL0
  simp only at HLL0
  rw [HPV.out] at HLL0
  have HAT0 := hide (fun X hX hY => at_any (.slice kA kn kc) p.b kn B p.f p.t X hX hkn hY)
  generalize hps : strOfNums p.b = ps at *
  generalize hpf : p.f = pf at *
  generalize hpt : p.t = pt at *
  clear hps hpf hpt h hk hkn hLn
  have HB1 : Hid (Below w.heap.size w ((w.alloc (.cells #[.slice kA kn kc, .int .i64 pf, .int .i64 pt] keyT)).alloc (.cells #[.slice none 0 0, .int .i64 0, .int .i64 0, .int .i64 0, .int .i64 0, .bool false, .bool false] cvT))) := ((Below.refl w.heap.size w).alloc (Nat.le_refl _) _).alloc (by simp) _
  have HKB : Hid (Blk ((w.alloc (.cells #[.slice kA kn kc, .int .i64 pf, .int .i64 pt] keyT)).alloc (.cells #[.slice none 0 0, .int .i64 0, .int .i64 0, .int .i64 0, .int .i64 0, .bool false, .bool false] cvT)) w.heap.size keyT #[.slice kA kn kc, .int .i64 pf, .int .i64 pt]) := (Blk.new w _ _).alloc _
  have HRB : Hid (Blk ((w.alloc (.cells #[.slice kA kn kc, .int .i64 pf, .int .i64 pt] keyT)).alloc (.cells #[.slice none 0 0, .int .i64 0, .int .i64 0, .int .i64 0, .int .i64 0, .bool false, .bool false] cvT)) (w.heap.size + 1) cvT #[.slice none 0 0, .int .i64 0, .int .i64 0, .int .i64 0, .int .i64 0, .bool false, .bool false]) := by
    have h9 := Blk.new (w.alloc (.cells #[.slice kA kn kc, .int .i64 pf, .int .i64 pt] keyT)) cvT #[.slice none 0 0, .int .i64 0, .int .i64 0, .int .i64 0, .int .i64 0, .bool false, .bool false]
    simpa [Hid] using h9
  go_enter Try.func14, Try.ntmps14
  go_upto_region 1 with fail
  change Code.wp _ _ _ _ ((w.alloc (.cells #[.slice kA kn kc, .int .i64 pf, .int .i64 pt] keyT)).alloc (.cells #[.slice none 0 0, .int .i64 0, .int .i64 0, .int .i64 0, .int .i64 0, .bool false, .bool false] cvT))
  generalize (w.alloc (.cells #[.slice kA kn kc, .int .i64 pf, .int .i64 pt] keyT)).alloc (.cells #[.slice none 0 0, .int .i64 0, .int .i64 0, .int .i64 0, .int .i64 0, .bool false, .bool false] cvT) = w1 at *
  obtain ⟨qb, hqb⟩ : ∃ qb, qb = w.heap.size := ⟨_, rfl⟩
  obtain ⟨rb, hrb⟩ : ∃ rb, rb = w.heap.size + 1 := ⟨_, rfl⟩
  have HNB : Hid (w.heap.size ≤ rb ∧ qb ≠ rb) := ⟨by omega, by omega⟩
  rw [← hrb] at HRB ⊢
  rw [← hqb] at HKB ⊢
  clear hqb hrb
  have HT1 := hide (HT.out.below HB1.out)
  have HLL : Hid (∀ X : World, Below w1.heap.size w1 X → (Instr.lookup cmT (.map (some cb)) (.agg #[.string ps, .int .i64 pf, .int .i64 pt]) true).run Try.prog X = .ok (.tuple #[.agg #[.slice LA Ln Lc, .int .i64 ls, .int .i64 ln, .int .i64 lg, .int .i64 lh, .bool lp, .bool lc], .bool kL]) X) := fun X hX => HLL0.out X (HB1.out.trans (hX.mono HB1.out.size))
  have HAT : Hid (∀ X : World, Below w1.heap.size w1 X → Calls Try.prog 34 #[.agg #[.slice kA kn kc, .int .i64 pf, .int .i64 pt]] X fun e w' => e = .returned (.agg #[.string ps, .int .i64 pf, .int .i64 pt]) ∧ Below w1.heap.size w1 w' ∧ ∀ nb t cs, Blk X nb t cs → Blk w' nb t cs) := fun X hX => by
    have h1 := HB1.out.trans (hX.mono HB1.out.size)
    exact (HAT0.out X (HK.out.below (h1.mono hB)) (Nat.le_trans hB h1.size)).mono (fun e w' hp => ⟨hp.1, hX.trans (hp.2.mono hX.size), fun nb t cs hc => hc.below hp.2 hc.lt⟩)
  clear HLL0 HAT0
  have HS : Hid (∀ X : World, Below w1.heap.size w1 X → (fun X : World => X.cell? ⟨tb, 0, none⟩ = some (.map (some cb)) ∧ X.cell? ⟨qb, 0, none⟩ = some (.slice kA kn kc) ∧ X.cell? ⟨qb, 1, none⟩ = some (.int .i64 pf) ∧ X.cell? ⟨qb, 2, none⟩ = some (.int .i64 pt) ∧ (Instr.lookup cmT (.map (some cb)) (.agg #[.string ps, .int .i64 pf, .int .i64 pt]) true).run Try.prog X = .ok (.tuple #[.agg #[.slice LA Ln Lc, .int .i64 ls, .int .i64 ln, .int .i64 lg, .int .i64 lh, .bool lp, .bool lc], .bool kL]) X) X) := fun X hX => by
    have h1 := HT1.out.below hX
    have h2 := HKB.out.below hX HKB.out.lt
    exact ⟨h1.blk.cell 0, h2.cell 0, h2.cell 1, h2.cell 2, HLL.out X hX⟩
  have HD1 : Hid (∀ X : World, Below w1.heap.size w1 X → Below w1.heap.size w1 X.drew) := fun X hX => hX.drewN 1
  have HA1 : Hid (∀ (X : World) (o : Obj), Below w1.heap.size w1 X → Below w1.heap.size w1 (X.alloc o)) := fun X o hX => hX.alloc hX.size o
  have HR1 := hide (Below.refl w1.heap.size w1)
  have HSET : Hid (∀ (X : World) (nb : Nat) (a b c d e f g : Value), Below w1.heap.size w1 X → w1.heap.size ≤ nb → (fun X : World => X.cell? ⟨tb, 0, none⟩ = some (.map (some cb)) ∧ X.cell? ⟨qb, 0, none⟩ = some (.slice kA kn kc) ∧ X.cell? ⟨qb, 1, none⟩ = some (.int .i64 pf) ∧ X.cell? ⟨qb, 2, none⟩ = some (.int .i64 pt) ∧ (Instr.lookup cmT (.map (some cb)) (.agg #[.string ps, .int .i64 pf, .int .i64 pt]) true).run Try.prog X = .ok (.tuple #[.agg #[.slice LA Ln Lc, .int .i64 ls, .int .i64 ln, .int .i64 lg, .int .i64 lh, .bool lp, .bool lc], .bool kL]) X) (((((((X.setCell ⟨nb, 0, none⟩ a).setCell ⟨nb, 1, none⟩ b).setCell ⟨nb, 2, none⟩ c).setCell ⟨nb, 3, none⟩ d).setCell ⟨nb, 4, none⟩ e).setCell ⟨nb, 5, none⟩ f).setCell ⟨nb, 6, none⟩ g)) := fun X nb a b c d e f g hX hn => HS.out _ (put7_below hX hn a b c d e f g)
  have HZ7 : Hid (∀ (X : World) (nb : Nat) (a b c d e f g : Value), X.heap.size = nb → Below w1.heap.size w1 X → Below w1.heap.size w1 ((((((((X.alloc (.cells #[.slice none 0 0, .int .i64 0, .int .i64 0, .int .i64 0, .int .i64 0, .bool false, .bool false] cvT)).setCell ⟨nb, 0, none⟩ a).setCell ⟨nb, 1, none⟩ b).setCell ⟨nb, 2, none⟩ c).setCell ⟨nb, 3, none⟩ d).setCell ⟨nb, 4, none⟩ e).setCell ⟨nb, 5, none⟩ f).setCell ⟨nb, 6, none⟩ g) ∧ Blk ((((((((X.alloc (.cells #[.slice none 0 0, .int .i64 0, .int .i64 0, .int .i64 0, .int .i64 0, .bool false, .bool false] cvT)).setCell ⟨nb, 0, none⟩ a).setCell ⟨nb, 1, none⟩ b).setCell ⟨nb, 2, none⟩ c).setCell ⟨nb, 3, none⟩ d).setCell ⟨nb, 4, none⟩ e).setCell ⟨nb, 5, none⟩ f).setCell ⟨nb, 6, none⟩ g) nb cvT #[a, b, c, d, e, f, g] ∧ w1.heap.size ≤ nb) := fun X nb a b c d e f g hn hX => by
    subst hn
    exact ⟨put7_below (hX.alloc hX.size _) hX.size _ _ _ _ _ _ _, put7_blk (Blk.new X _ _) _ _ _ _ _ _ _, hX.size⟩
  have HZ8 : Hid (∀ (X : World) (nb : Nat) (a b c d e f g : Value), Below w1.heap.size w1 X → Blk X nb cvT #[.slice none 0 0, .int .i64 0, .int .i64 0, .int .i64 0, .int .i64 0, .bool false, .bool false] → w1.heap.size ≤ nb → Below w1.heap.size w1 (((((((X.setCell ⟨nb, 0, none⟩ a).setCell ⟨nb, 1, none⟩ b).setCell ⟨nb, 2, none⟩ c).setCell ⟨nb, 3, none⟩ d).setCell ⟨nb, 4, none⟩ e).setCell ⟨nb, 5, none⟩ f).setCell ⟨nb, 6, none⟩ g) ∧ Blk (((((((X.setCell ⟨nb, 0, none⟩ a).setCell ⟨nb, 1, none⟩ b).setCell ⟨nb, 2, none⟩ c).setCell ⟨nb, 3, none⟩ d).setCell ⟨nb, 4, none⟩ e).setCell ⟨nb, 5, none⟩ f).setCell ⟨nb, 6, none⟩ g) nb cvT #[a, b, c, d, e, f, g] ∧ w1.heap.size ≤ nb) := fun X nb a b c d e f g hX hn h9 =>
    ⟨put7_below hX h9 _ _ _ _ _ _ _, put7_blk hn _ _ _ _ _ _ _, h9⟩
  go_cut [6, 7] from 8 to 17 (fun q6 q7 wx => ∃ nb, q6 = .pointer (some ⟨nb, 0, none⟩) ∧ q7 = .bool kL ∧ Hid (Below w1.heap.size w1 wx ∧ Blk wx nb cvT #[.slice LA Ln Lc, .int .i64 ls, .int .i64 ln, .int .i64 lg, .int .i64 lh, .bool lp, .bool lc] ∧ w1.heap.size ≤ nb))
  case first =>
    obtain ⟨s0, s1, s2, s3, s4⟩ := HS.out w1 HR1.out
    go_region_held3 (fun X : World => X.cell? ⟨tb, 0, none⟩ = some (.map (some cb)) ∧ X.cell? ⟨qb, 0, none⟩ = some (.slice kA kn kc) ∧ X.cell? ⟨qb, 1, none⟩ = some (.int .i64 pf) ∧ X.cell? ⟨qb, 2, none⟩ = some (.int .i64 pt) ∧ (Instr.lookup cmT (.map (some cb)) (.agg #[.string ps, .int .i64 pf, .int .i64 pt]) true).run Try.prog X = .ok (.tuple #[.agg #[.slice LA Ln Lc, .int .i64 ls, .int .i64 ln, .int .i64 lg, .int .i64 lh, .bool lp, .bool lc], .bool kL]) X) (first
      | with_reducible exact HSET.out _ _ _ _ _ _ _ _ _ hk12 (Nat.le_refl _)
      | with_reducible exact HSET.out _ _ _ _ _ _ _ _ _ (HA1.out _ _ hk12) hk12.size
      | with_reducible exact HS.out _ hk12
      | with_reducible exact HS.out _ (HA1.out _ _ hk12)
      | with_reducible exact HS.out _ (HD1.out _ HR1.out)
      | with_reducible exact HS.out _ (HD1.out _ (HA1.out _ _ HR1.out))
      | with_reducible exact HS.out _ (HA1.out _ _ HR1.out)
      | with_reducible exact HS.out _ HR1.out) (first
      | (go_at_call 34; refine (HAT.out _ (by first | with_reducible exact HD1.out _ HR1.out | with_reducible exact HD1.out _ (HA1.out _ _ HR1.out) | exact HR1.out)).mono ?_; rintro e w12 ⟨rfl, hk12, hz12⟩
         have hs12 := HLL.out _ hk12
         first
           | (have kz := hz12 _ cvT #[.slice none 0 0, .int .i64 0, .int .i64 0, .int .i64 0, .int .i64 0, .bool false, .bool false] (by first | with_reducible exact (Blk.new w1 cvT _).drew | with_reducible exact Blk.new w1 cvT _); have f0 := kz.frozen 0; have f1 := kz.frozen 1; have f2 := kz.frozen 2; have f3 := kz.frozen 3; have f4 := kz.frozen 4; have f5 := kz.frozen 5; have f6 := kz.frozen 6; have d0 := kz.cell 0; have d1 := kz.cell 1; have d2 := kz.cell 2; have d3 := kz.cell 3; have d4 := kz.cell 4; have d5 := kz.cell 5; have d6 := kz.cell 6; simp at d0 d1 d2 d3 d4 d5 d6; have hlz := kz.lt)
           | skip))
    all_goals
      go_wp2_with fail
      go_meet
      case rel => first
        | with_reducible exact ⟨_, rfl, rfl, hide (HZ8.out _ _ _ _ _ _ _ _ _ hk12 kz (Nat.le_refl _))⟩
        | with_reducible exact ⟨_, rfl, rfl, hide ⟨HA1.out _ _ hk12, Blk.new _ _ _, hk12.size⟩⟩
        | with_reducible exact ⟨_, rfl, rfl, hide (HZ7.out _ _ _ _ _ _ _ _ _ rfl hk12)⟩
  case rest =>
  obtain ⟨nb, rfl, rfl, HBC⟩ := hcut
  have HB2 := hide (HB1.out.trans (HBC.out.1.mono HB1.out.size))
  have HN2 := hide HBC.out.2.1
  have HRB2 := hide (HRB.out.below HBC.out.1 HRB.out.lt)
  have HNE : Hid (nb ≠ rb) := by have h1 := HRB.out.lt; have h2 := HBC.out.2.2; show nb ≠ rb; omega
  have HNL : Hid (w.heap.size ≤ nb) := Nat.le_trans HB1.out.size HBC.out.2.2
  clear HBC HS HD1 HA1 HR1 HSET HZ7 HZ8 HLL HAT HT1 HKB HRB HB1
  have n0 : wc.cell? ⟨nb, 0, none⟩ = some (.slice LA Ln Lc) := HN2.out.cell 0
  have hnl := HN2.out.lt
  go_wp2_with fail
  refine (bclone_any _ lb Ln w.heap.size wc (HSL.out wc HB2.out).1 HLN.out (HSL.out wc HB2.out).2 HB2.out.size).mono ?_
  clear n0 hnl
  rintro e w3 ⟨u, rfl, ho3, hb3⟩
  obtain ⟨uA, uc, rfl, huc⟩ := ho3.sl.form
  have HB3 := hide (HB2.out.trans (hb3.mono HB2.out.size))
  have HN3 := hide (HN2.out.below hb3 HN2.out.lt)
  have HRB3 := hide (HRB2.out.below hb3 HRB2.out.lt)
  have HO3 := hide (ho3.lower HB2.out.size)
  clear ho3 hb3 HB2 HN2 HRB2
  have HON : Hid ((Value.slice uA Ln uc).ownBlock ≠ some nb ∧ (Value.slice uA Ln uc).ownBlock ≠ some rb) := ⟨HO3.out.ne HN3.out (by decide), HO3.out.ne HRB3.out (by decide)⟩
  have HW4 : Hid (Below w.heap.size w (w3.setCell ⟨nb, 0, none⟩ (.slice uA Ln uc)) ∧ Blk (w3.setCell ⟨nb, 0, none⟩ (.slice uA Ln uc)) nb cvT #[.slice uA Ln uc, .int .i64 ls, .int .i64 ln, .int .i64 lg, .int .i64 lh, .bool lp, .bool lc] ∧ Blk (w3.setCell ⟨nb, 0, none⟩ (.slice uA Ln uc)) rb cvT #[.slice none 0 0, .int .i64 0, .int .i64 0, .int .i64 0, .int .i64 0, .bool false, .bool false] ∧ Own (w3.setCell ⟨nb, 0, none⟩ (.slice uA Ln uc)) w.heap.size bT 1 (.slice uA Ln uc) Ln (bys lb)) :=
    ⟨HB3.out.setCell HNL.out _, HN3.out.put 0 _, HRB3.out.far (p := ⟨nb, 0, none⟩) (fun e => HNE.out e.symm) _, HO3.out.put (p := ⟨nb, 0, none⟩) HON.out.1 _⟩
  have n0 : w3.cell? ⟨nb, 0, none⟩ = some (.slice LA Ln Lc) := HN3.out.cell 0
  have y0 := HN3.out.frozen 0
  have hnl := HN3.out.lt
  go_upto_region 3 with fail
  generalize w3.setCell ⟨nb, 0, none⟩ (.slice uA Ln uc) = w4 at *
  clear HB3 HN3 HRB3 HO3 n0 y0 hnl
  have n0 : w4.cell? ⟨nb, 0, none⟩ = some (.slice uA Ln uc) := HW4.out.2.1.cell 0
  have n1 : w4.cell? ⟨nb, 1, none⟩ = some (.int .i64 ls) := HW4.out.2.1.cell 1
  have n2 : w4.cell? ⟨nb, 2, none⟩ = some (.int .i64 ln) := HW4.out.2.1.cell 2
  have n3 : w4.cell? ⟨nb, 3, none⟩ = some (.int .i64 lg) := HW4.out.2.1.cell 3
  have n4 : w4.cell? ⟨nb, 4, none⟩ = some (.int .i64 lh) := HW4.out.2.1.cell 4
  have n5 : w4.cell? ⟨nb, 5, none⟩ = some (.bool lp) := HW4.out.2.1.cell 5
  have n6 : w4.cell? ⟨nb, 6, none⟩ = some (.bool lc) := HW4.out.2.1.cell 6
  have hnl := HW4.out.2.1.lt
  have kz := HW4.out.2.2.1
  have f0 := kz.frozen 0
  have f1 := kz.frozen 1
  have f2 := kz.frozen 2
  have f3 := kz.frozen 3
  have f4 := kz.frozen 4
  have f5 := kz.frozen 5
  have f6 := kz.frozen 6
  have d0 := kz.cell 0
  have d1 := kz.cell 1
  have d2 := kz.cell 2
  have d3 := kz.cell 3
  have d4 := kz.cell 4
  have d5 := kz.cell 5
  have d6 := kz.cell 6
  simp at d0 d1 d2 d3 d4 d5 d6
  have hlz := kz.lt
  have HR9 : Hid (Blk (put7 w4 rb (.slice uA Ln uc) (.int .i64 ls) (.int .i64 ln) (.int .i64 lg) (.int .i64 lh) (.bool lp) (.bool lc)) rb cvT #[.slice uA Ln uc, .int .i64 ls, .int .i64 ln, .int .i64 lg, .int .i64 lh, .bool lp, .bool lc] ∧ Below w.heap.size w (put7 w4 rb (.slice uA Ln uc) (.int .i64 ls) (.int .i64 ln) (.int .i64 lg) (.int .i64 lh) (.bool lp) (.bool lc)) ∧
      Own (put7 w4 rb (.slice uA Ln uc) (.int .i64 ls) (.int .i64 ln) (.int .i64 lg) (.int .i64 lh) (.bool lp) (.bool lc)) w.heap.size bT 1 (.slice uA Ln uc) Ln (bys lb)) :=
    ⟨put7_blk kz _ _ _ _ _ _ _, put7_below HW4.out.1 HNB.out.1 _ _ _ _ _ _ _, HW4.out.2.2.2.fr (put7_fr (S := fun j => j = rb) (Fr.refl _ _) (.inl rfl) _ _ _ _ _ _ _) (fun g hg e => HON.out.2 (by rw [hg, e]))⟩
  clear kz
  go_wp2_with fail
  change bodyPost _ _ _ _ _ (put7 w4 rb (.slice uA Ln uc) (.int .i64 ls) (.int .i64 ln) (.int .i64 lg) (.int .i64 lh) (.bool lp) (.bool lc))
  generalize put7 w4 rb (.slice uA Ln uc) (.int .i64 ls) (.int .i64 ln) (.int .i64 lg) (.int .i64 lh) (.bool lp) (.bool lc) = w9 at *
  have c0 : w9.cell? ⟨rb, 0, none⟩ = some (.slice uA Ln uc) := HR9.out.1.cell 0
  have c1 : w9.cell? ⟨rb, 1, none⟩ = some (.int .i64 ls) := HR9.out.1.cell 1
  have c2 : w9.cell? ⟨rb, 2, none⟩ = some (.int .i64 ln) := HR9.out.1.cell 2
  have c3 : w9.cell? ⟨rb, 3, none⟩ = some (.int .i64 lg) := HR9.out.1.cell 3
  have c4 : w9.cell? ⟨rb, 4, none⟩ = some (.int .i64 lh) := HR9.out.1.cell 4
  have c5 : w9.cell? ⟨rb, 5, none⟩ = some (.bool lp) := HR9.out.1.cell 5
  have c6 : w9.cell? ⟨rb, 6, none⟩ = some (.bool lc) := HR9.out.1.cell 6
  have hres : Try.f14.results = #[.cell 4 cvT, .tmp 5] := by kernel_rfl
  refine bodyPost_ret (v := .tuple #[.agg #[.slice uA Ln uc, .int .i64 ls, .int .i64 ln, .int .i64 lg, .int .i64 lh, .bool lp, .bool lc], .bool kL]) ?_ rfl ⟨uA, uc, ?_, ?_, HR9.out.2.1⟩
  · simp [results, hres, go_sem, c0, c1, c2, c3, c4, c5, c6]
  · rw [HLN.out]
  · have h9 := HR9.out.2.2
    rw [← HLN.out] at h9
    exact h9

end Go.Proofs.Ytkobaidamdffmaa
