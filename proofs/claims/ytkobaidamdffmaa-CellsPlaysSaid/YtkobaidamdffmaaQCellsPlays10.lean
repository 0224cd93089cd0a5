/- cells.Table: Get. (printed by gencell5.py) / cells.Table: Hold. / The law's awake (layer 15). / The laws of layer 15: calls, as a law makes them. -/
import Derived.Test.YtkobaidamdffmaaQCellsPlays09
import Derived.Test.YtkobaidamdffmaaQCellsPlays07

namespace Go.Proofs.Ytkobaidamdffmaa
open Go.RowKit Go.Sort
set_option linter.unusedVariables false
set_option linter.unusedSimpArgs false

/-- what Get gives -/
def GetP (w : World) (d : CD) (is_ : Bool) (e : Ending) (w' : World) : Prop :=
  ∃ (uA : Option Addr) (uc : Nat), e = .returned (.tuple #[.agg #[.slice uA d.b.length uc, .int .i64 d.s, .int .i64 d.n, .int .i64 d.g, .int .i64 d.h, .bool d.p, .bool d.c], .bool is_]) ∧ Own w' w.heap.size bT 1 (.slice uA d.b.length uc) d.b.length (bys d.b) ∧ Below w.heap.size w w'
set_option maxRecDepth 100000 in
set_option maxHeartbeats 8000000 in
theorem cget_any (w : World) (base tb cb B kn kc : Nat) (wm fm : Option Nat) (bg : Bool) (L W : List (PK × CV)) (F : List (PK × Int)) (kA : Option Addr) (p : PK) (h : TabS w base tb cb wm fm bg L W F)
    (hk : Sl w B (.slice kA kn kc) 1 kn (bys p.b)) (hkn : p.b.length = kn) (hB : B ≤ w.heap.size) :
    Calls Try.prog 14 #[.pointer (some ⟨tb, 0, none⟩), .agg #[.slice kA kn kc, .int .i64 p.f, .int .i64 p.t]] w (GetP w (gv (lk L p)).d (lk L p).isSome) := by
  have HT := hide h
  have HK := hide hk
  have HKN := hide hkn
  have HPV : Hid (plV p = .agg #[.string (strOfNums p.b), .int .i64 p.f, .int .i64 p.t]) := rfl
  obtain ⟨LA, Ln, Lc, hlv⟩ := gv_form h.acc p
  have HSL : Hid (∀ X : World, Below w.heap.size w X → Sl X w.heap.size (gv (lk L p)).v 1 (gv (lk L p)).d.b.length (bys (gv (lk L p)).d.b) ∧ (gv (lk L p)).d.b.length ≤ 140737488355328) := fun X hX => by
    cases hl : lk L p with
    | none => exact ⟨Sl.nil X _ _, by simp [gv]⟩
    | some c =>
      have h9 := h.acc _ (lk_mem hl)
      exact ⟨(h9.1.sl).below hX, Nat.le_trans h9.2.2.1 (by decide)⟩
  have HLL0 : Hid (∀ X : World, Below w.heap.size w X → (Instr.lookup cmT (.map (some cb)) (plV p) true).run Try.prog X = .ok (.tuple #[cvV (gv (lk L p)), .bool (lk L p).isSome]) X) := fun X hX => by
    have h9 := (h.map.below hX h.map.lt).look plW cmU zeroCv p true (P := Try.prog)
    rw [gv_eq] at h9
    exact h9
  obtain ⟨L7, hL7⟩ : ∃ L7, L7 = gv (lk L p) := ⟨_, rfl⟩
  rw [← hL7] at HLL0 hlv HSL ⊢
  obtain ⟨kL, hkl⟩ : ∃ kL, kL = (lk L p).isSome := ⟨_, rfl⟩
  rw [← hkl] at HLL0 ⊢
  clear hL7 hkl
  obtain ⟨lv, lb, ls, ln, lg, lh, lp, lc⟩ := L7
  simp only at hlv HSL
  subst hlv
  have hLn : lb.length = Ln := by
    obtain ⟨A9, c9, h9, _⟩ := (HSL.out w (Below.refl _ _)).1.form
    injection h9 with _ h9 _
    exact h9.symm
  have HLN := hide hLn
  rw [hLn] at HSL
  unfold cvV CV.cells at HLL0
  simp only at HLL0
  rw [HPV.out] at HLL0
  have HAT0 := hide (fun X hX hY => at_any (.slice kA kn kc) p.b kn B p.f p.t X hX hkn hY)
  generalize hps : strOfNums p.b = ps at *
  generalize hpf : p.f = pf at *
  generalize hpt : p.t = pt at *
  clear hps hpf hpt h hk hkn hLn
  have HB1 : Hid (Below w.heap.size w ((w.alloc (.cells #[.slice kA kn kc, .int .i64 pf, .int .i64 pt] keyT)).alloc (.cells #[.slice none 0 0, .int .i64 0, .int .i64 0, .int .i64 0, .int .i64 0, .bool false, .bool false] cvT))) := ((Below.refl w.heap.size w).alloc (Nat.le_refl _) _).alloc (by simp) _
  have HKB : Hid (Blk ((w.alloc (.cells #[.slice kA kn kc, .int .i64 pf, .int .i64 pt] keyT)).alloc (.cells #[.slice none 0 0, .int .i64 0, .int .i64 0, .int .i64 0, .int .i64 0, .bool false, .bool false] cvT)) w.heap.size keyT #[.slice kA kn kc, .int .i64 pf, .int .i64 pt]) := (Blk.new w _ _).alloc _
  have HRB : Hid (Blk ((w.alloc (.cells #[.slice kA kn kc, .int .i64 pf, .int .i64 pt] keyT)).alloc (.cells #[.slice none 0 0, .int .i64 0, .int .i64 0, .int .i64 0, .int .i64 0, .bool false, .bool false] cvT)) (w.heap.size + 1) cvT #[.slice none 0 0, .int .i64 0, .int .i64 0, .int .i64 0, .int .i64 0, .bool false, .bool false]) := by
    have h9 := Blk.new (w.alloc (.cells #[.slice kA kn kc, .int .i64 pf, .int .i64 pt] keyT)) cvT #[.slice none 0 0, .int .i64 0, .int .i64 0, .int .i64 0, .int .i64 0, .bool false, .bool false]
    simpa [Hid] using h9
  go_enter Try.func14, Try.ntmps14
  go_upto_region 1 with fail
  change Code.wp _ _ _ _ ((w.alloc (.cells #[.slice kA kn kc, .int .i64 pf, .int .i64 pt] keyT)).alloc (.cells #[.slice none 0 0, .int .i64 0, .int .i64 0, .int .i64 0, .int .i64 0, .bool false, .bool false] cvT))
  generalize (w.alloc (.cells #[.slice kA kn kc, .int .i64 pf, .int .i64 pt] keyT)).alloc (.cells #[.slice none 0 0, .int .i64 0, .int .i64 0, .int .i64 0, .int .i64 0, .bool false, .bool false] cvT) = w1 at *
  obtain ⟨qb, hqb⟩ : ∃ qb, qb = w.heap.size := ⟨_, rfl⟩
  obtain ⟨rb, hrb⟩ : ∃ rb, rb = w.heap.size + 1 := ⟨_, rfl⟩
  have HNB : Hid (w.heap.size ≤ rb ∧ qb ≠ rb) := ⟨by omega, by omega⟩
  rw [← hrb] at HRB ⊢
  rw [← hqb] at HKB ⊢
  clear hqb hrb
  have HT1 := hide (HT.out.below HB1.out)
  have HLL : Hid (∀ X : World, Below w1.heap.size w1 X → (Instr.lookup cmT (.map (some cb)) (.agg #[.string ps, .int .i64 pf, .int .i64 pt]) true).run Try.prog X = .ok (.tuple #[.agg #[.slice LA Ln Lc, .int .i64 ls, .int .i64 ln, .int .i64 lg, .int .i64 lh, .bool lp, .bool lc], .bool kL]) X) := fun X hX => HLL0.out X (HB1.out.trans (hX.mono HB1.out.size))
  have HAT : Hid (∀ X : World, Below w1.heap.size w1 X → Calls Try.prog 34 #[.agg #[.slice kA kn kc, .int .i64 pf, .int .i64 pt]] X fun e w' => e = .returned (.agg #[.string ps, .int .i64 pf, .int .i64 pt]) ∧ Below w1.heap.size w1 w' ∧ ∀ nb t cs, Blk X nb t cs → Blk w' nb t cs) := fun X hX => by
    have h1 := HB1.out.trans (hX.mono HB1.out.size)
    exact (HAT0.out X (HK.out.below (h1.mono hB)) (Nat.le_trans hB h1.size)).mono (fun e w' hp => ⟨hp.1, hX.trans (hp.2.mono hX.size), fun nb t cs hc => hc.below hp.2 hc.lt⟩)
  clear HLL0 HAT0
  have HS : Hid (∀ X : World, Below w1.heap.size w1 X → (fun X : World => X.cell? ⟨tb, 0, none⟩ = some (.map (some cb)) ∧ X.cell? ⟨qb, 0, none⟩ = some (.slice kA kn kc) ∧ X.cell? ⟨qb, 1, none⟩ = some (.int .i64 pf) ∧ X.cell? ⟨qb, 2, none⟩ = some (.int .i64 pt) ∧ (Instr.lookup cmT (.map (some cb)) (.agg #[.string ps, .int .i64 pf, .int .i64 pt]) true).run Try.prog X = .ok (.tuple #[.agg #[.slice LA Ln Lc, .int .i64 ls, .int .i64 ln, .int .i64 lg, .int .i64 lh, .bool lp, .bool lc], .bool kL]) X) X) := fun X hX => by
    have h1 := HT1.out.below hX
    have h2 := HKB.out.below hX HKB.out.lt
    exact ⟨h1.blk.cell 0, h2.cell 0, h2.cell 1, h2.cell 2, HLL.out X hX⟩
  have HD1 : Hid (∀ X : World, Below w1.heap.size w1 X → Below w1.heap.size w1 X.drew) := fun X hX => hX.drewN 1
  have HA1 : Hid (∀ (X : World) (o : Obj), Below w1.heap.size w1 X → Below w1.heap.size w1 (X.alloc o)) := fun X o hX => hX.alloc hX.size o
  have HR1 := hide (Below.refl w1.heap.size w1)
  have HSET : Hid (∀ (X : World) (nb : Nat) (a b c d e f g : Value), Below w1.heap.size w1 X → w1.heap.size ≤ nb → (fun X : World => X.cell? ⟨tb, 0, none⟩ = some (.map (some cb)) ∧ X.cell? ⟨qb, 0, none⟩ = some (.slice kA kn kc) ∧ X.cell? ⟨qb, 1, none⟩ = some (.int .i64 pf) ∧ X.cell? ⟨qb, 2, none⟩ = some (.int .i64 pt) ∧ (Instr.lookup cmT (.map (some cb)) (.agg #[.string ps, .int .i64 pf, .int .i64 pt]) true).run Try.prog X = .ok (.tuple #[.agg #[.slice LA Ln Lc, .int .i64 ls, .int .i64 ln, .int .i64 lg, .int .i64 lh, .bool lp, .bool lc], .bool kL]) X) (((((((X.setCell ⟨nb, 0, none⟩ a).setCell ⟨nb, 1, none⟩ b).setCell ⟨nb, 2, none⟩ c).setCell ⟨nb, 3, none⟩ d).setCell ⟨nb, 4, none⟩ e).setCell ⟨nb, 5, none⟩ f).setCell ⟨nb, 6, none⟩ g)) := fun X nb a b c d e f g hX hn => HS.out _ (put7_below hX hn a b c d e f g)
  have HZ7 : Hid (∀ (X : World) (nb : Nat) (a b c d e f g : Value), X.heap.size = nb → Below w1.heap.size w1 X → Below w1.heap.size w1 ((((((((X.alloc (.cells #[.slice none 0 0, .int .i64 0, .int .i64 0, .int .i64 0, .int .i64 0, .bool false, .bool false] cvT)).setCell ⟨nb, 0, none⟩ a).setCell ⟨nb, 1, none⟩ b).setCell ⟨nb, 2, none⟩ c).setCell ⟨nb, 3, none⟩ d).setCell ⟨nb, 4, none⟩ e).setCell ⟨nb, 5, none⟩ f).setCell ⟨nb, 6, none⟩ g) ∧ Blk ((((((((X.alloc (.cells #[.slice none 0 0, .int .i64 0, .int .i64 0, .int .i64 0, .int .i64 0, .bool false, .bool false] cvT)).setCell ⟨nb, 0, none⟩ a).setCell ⟨nb, 1, none⟩ b).setCell ⟨nb, 2, none⟩ c).setCell ⟨nb, 3, none⟩ d).setCell ⟨nb, 4, none⟩ e).setCell ⟨nb, 5, none⟩ f).setCell ⟨nb, 6, none⟩ g) nb cvT #[a, b, c, d, e, f, g] ∧ w1.heap.size ≤ nb) := fun X nb a b c d e f g hn hX => by
    subst hn
    exact ⟨put7_below (hX.alloc hX.size _) hX.size _ _ _ _ _ _ _, put7_blk (Blk.new X _ _) _ _ _ _ _ _ _, hX.size⟩
  have HZ8 : Hid (∀ (X : World) (nb : Nat) (a b c d e f g : Value), Below w1.heap.size w1 X → Blk X nb cvT #[.slice none 0 0, .int .i64 0, .int .i64 0, .int .i64 0, .int .i64 0, .bool false, .bool false] → w1.heap.size ≤ nb → Below w1.heap.size w1 (((((((X.setCell ⟨nb, 0, none⟩ a).setCell ⟨nb, 1, none⟩ b).setCell ⟨nb, 2, none⟩ c).setCell ⟨nb, 3, none⟩ d).setCell ⟨nb, 4, none⟩ e).setCell ⟨nb, 5, none⟩ f).setCell ⟨nb, 6, none⟩ g) ∧ Blk (((((((X.setCell ⟨nb, 0, none⟩ a).setCell ⟨nb, 1, none⟩ b).setCell ⟨nb, 2, none⟩ c).setCell ⟨nb, 3, none⟩ d).setCell ⟨nb, 4, none⟩ e).setCell ⟨nb, 5, none⟩ f).setCell ⟨nb, 6, none⟩ g) nb cvT #[a, b, c, d, e, f, g] ∧ w1.heap.size ≤ nb) := fun X nb a b c d e f g hX hn h9 =>
    ⟨put7_below hX h9 _ _ _ _ _ _ _, put7_blk hn _ _ _ _ _ _ _, h9⟩
  go_cut [6, 7] from 8 to 17 (fun q6 q7 wx => ∃ nb, q6 = .pointer (some ⟨nb, 0, none⟩) ∧ q7 = .bool kL ∧ Hid (Below w1.heap.size w1 wx ∧ Blk wx nb cvT #[.slice LA Ln Lc, .int .i64 ls, .int .i64 ln, .int .i64 lg, .int .i64 lh, .bool lp, .bool lc] ∧ w1.heap.size ≤ nb))
  case first =>
    obtain ⟨s0, s1, s2, s3, s4⟩ := HS.out w1 HR1.out
    go_region_held3 (fun X : World => X.cell? ⟨tb, 0, none⟩ = some (.map (some cb)) ∧ X.cell? ⟨qb, 0, none⟩ = some (.slice kA kn kc) ∧ X.cell? ⟨qb, 1, none⟩ = some (.int .i64 pf) ∧ X.cell? ⟨qb, 2, none⟩ = some (.int .i64 pt) ∧ (Instr.lookup cmT (.map (some cb)) (.agg #[.string ps, .int .i64 pf, .int .i64 pt]) true).run Try.prog X = .ok (.tuple #[.agg #[.slice LA Ln Lc, .int .i64 ls, .int .i64 ln, .int .i64 lg, .int .i64 lh, .bool lp, .bool lc], .bool kL]) X) (first
      | with_reducible exact HSET.out _ _ _ _ _ _ _ _ _ hk12 (Nat.le_refl _)
      | with_reducible exact HSET.out _ _ _ _ _ _ _ _ _ (HA1.out _ _ hk12) hk12.size
      | with_reducible exact HS.out _ hk12
      | with_reducible exact HS.out _ (HA1.out _ _ hk12)
      | with_reducible exact HS.out _ (HD1.out _ HR1.out)
      | with_reducible exact HS.out _ (HD1.out _ (HA1.out _ _ HR1.out))
      | with_reducible exact HS.out _ (HA1.out _ _ HR1.out)
      | with_reducible exact HS.out _ HR1.out) (first
      | (go_at_call 34; refine (HAT.out _ (by first | with_reducible exact HD1.out _ HR1.out | with_reducible exact HD1.out _ (HA1.out _ _ HR1.out) | exact HR1.out)).mono ?_; rintro e w12 ⟨rfl, hk12, hz12⟩
         have hs12 := HLL.out _ hk12
         first
           | (have kz := hz12 _ cvT #[.slice none 0 0, .int .i64 0, .int .i64 0, .int .i64 0, .int .i64 0, .bool false, .bool false] (by first | with_reducible exact (Blk.new w1 cvT _).drew | with_reducible exact Blk.new w1 cvT _); have f0 := kz.frozen 0; have f1 := kz.frozen 1; have f2 := kz.frozen 2; have f3 := kz.frozen 3; have f4 := kz.frozen 4; have f5 := kz.frozen 5; have f6 := kz.frozen 6; have d0 := kz.cell 0; have d1 := kz.cell 1; have d2 := kz.cell 2; have d3 := kz.cell 3; have d4 := kz.cell 4; have d5 := kz.cell 5; have d6 := kz.cell 6; simp at d0 d1 d2 d3 d4 d5 d6; have hlz := kz.lt)
           | skip))
    all_goals
      go_wp2_with fail
      go_meet
      case rel => first
        | with_reducible exact ⟨_, rfl, rfl, hide (HZ8.out _ _ _ _ _ _ _ _ _ hk12 kz (Nat.le_refl _))⟩
        | with_reducible exact ⟨_, rfl, rfl, hide ⟨HA1.out _ _ hk12, Blk.new _ _ _, hk12.size⟩⟩
        | with_reducible exact ⟨_, rfl, rfl, hide (HZ7.out _ _ _ _ _ _ _ _ _ rfl hk12)⟩
  case rest =>
  obtain ⟨nb, rfl, rfl, HBC⟩ := hcut
  have HB2 := hide (HB1.out.trans (HBC.out.1.mono HB1.out.size))
  have HN2 := hide HBC.out.2.1
  have HRB2 := hide (HRB.out.below HBC.out.1 HRB.out.lt)
  have HNE : Hid (nb ≠ rb) := by have h1 := HRB.out.lt; have h2 := HBC.out.2.2; show nb ≠ rb; omega
  have HNL : Hid (w.heap.size ≤ nb) := Nat.le_trans HB1.out.size HBC.out.2.2
  clear HBC HS HD1 HA1 HR1 HSET HZ7 HZ8 HLL HAT HT1 HKB HRB HB1
  have n0 : wc.cell? ⟨nb, 0, none⟩ = some (.slice LA Ln Lc) := HN2.out.cell 0
  have hnl := HN2.out.lt
  go_wp2_with fail
  refine (bclone_any _ lb Ln w.heap.size wc (HSL.out wc HB2.out).1 HLN.out (HSL.out wc HB2.out).2 HB2.out.size).mono ?_
  clear n0 hnl
  rintro e w3 ⟨u, rfl, ho3, hb3⟩
  obtain ⟨uA, uc, rfl, huc⟩ := ho3.sl.form
  have HB3 := hide (HB2.out.trans (hb3.mono HB2.out.size))
  have HN3 := hide (HN2.out.below hb3 HN2.out.lt)
  have HRB3 := hide (HRB2.out.below hb3 HRB2.out.lt)
  have HO3 := hide (ho3.lower HB2.out.size)
  clear ho3 hb3 HB2 HN2 HRB2
  have HON : Hid ((Value.slice uA Ln uc).ownBlock ≠ some nb ∧ (Value.slice uA Ln uc).ownBlock ≠ some rb) := ⟨HO3.out.ne HN3.out (by decide), HO3.out.ne HRB3.out (by decide)⟩
  have HW4 : Hid (Below w.heap.size w (w3.setCell ⟨nb, 0, none⟩ (.slice uA Ln uc)) ∧ Blk (w3.setCell ⟨nb, 0, none⟩ (.slice uA Ln uc)) nb cvT #[.slice uA Ln uc, .int .i64 ls, .int .i64 ln, .int .i64 lg, .int .i64 lh, .bool lp, .bool lc] ∧ Blk (w3.setCell ⟨nb, 0, none⟩ (.slice uA Ln uc)) rb cvT #[.slice none 0 0, .int .i64 0, .int .i64 0, .int .i64 0, .int .i64 0, .bool false, .bool false] ∧ Own (w3.setCell ⟨nb, 0, none⟩ (.slice uA Ln uc)) w.heap.size bT 1 (.slice uA Ln uc) Ln (bys lb)) :=
    ⟨HB3.out.setCell HNL.out _, HN3.out.put 0 _, HRB3.out.far (p := ⟨nb, 0, none⟩) (fun e => HNE.out e.symm) _, HO3.out.put (p := ⟨nb, 0, none⟩) HON.out.1 _⟩
  have n0 : w3.cell? ⟨nb, 0, none⟩ = some (.slice LA Ln Lc) := HN3.out.cell 0
  have y0 := HN3.out.frozen 0
  have hnl := HN3.out.lt
  go_upto_region 3 with fail
  generalize w3.setCell ⟨nb, 0, none⟩ (.slice uA Ln uc) = w4 at *
  clear HB3 HN3 HRB3 HO3 n0 y0 hnl
  have n0 : w4.cell? ⟨nb, 0, none⟩ = some (.slice uA Ln uc) := HW4.out.2.1.cell 0
  have n1 : w4.cell? ⟨nb, 1, none⟩ = some (.int .i64 ls) := HW4.out.2.1.cell 1
  have n2 : w4.cell? ⟨nb, 2, none⟩ = some (.int .i64 ln) := HW4.out.2.1.cell 2
  have n3 : w4.cell? ⟨nb, 3, none⟩ = some (.int .i64 lg) := HW4.out.2.1.cell 3
  have n4 : w4.cell? ⟨nb, 4, none⟩ = some (.int .i64 lh) := HW4.out.2.1.cell 4
  have n5 : w4.cell? ⟨nb, 5, none⟩ = some (.bool lp) := HW4.out.2.1.cell 5
  have n6 : w4.cell? ⟨nb, 6, none⟩ = some (.bool lc) := HW4.out.2.1.cell 6
  have hnl := HW4.out.2.1.lt
  have kz := HW4.out.2.2.1
  have f0 := kz.frozen 0
  have f1 := kz.frozen 1
  have f2 := kz.frozen 2
  have f3 := kz.frozen 3
  have f4 := kz.frozen 4
  have f5 := kz.frozen 5
  have f6 := kz.frozen 6
  have d0 := kz.cell 0
  have d1 := kz.cell 1
  have d2 := kz.cell 2
  have d3 := kz.cell 3
  have d4 := kz.cell 4
  have d5 := kz.cell 5
  have d6 := kz.cell 6
  simp at d0 d1 d2 d3 d4 d5 d6
  have hlz := kz.lt
  have HR9 : Hid (Blk (put7 w4 rb (.slice uA Ln uc) (.int .i64 ls) (.int .i64 ln) (.int .i64 lg) (.int .i64 lh) (.bool lp) (.bool lc)) rb cvT #[.slice uA Ln uc, .int .i64 ls, .int .i64 ln, .int .i64 lg, .int .i64 lh, .bool lp, .bool lc] ∧ Below w.heap.size w (put7 w4 rb (.slice uA Ln uc) (.int .i64 ls) (.int .i64 ln) (.int .i64 lg) (.int .i64 lh) (.bool lp) (.bool lc)) ∧
      Own (put7 w4 rb (.slice uA Ln uc) (.int .i64 ls) (.int .i64 ln) (.int .i64 lg) (.int .i64 lh) (.bool lp) (.bool lc)) w.heap.size bT 1 (.slice uA Ln uc) Ln (bys lb)) :=
    ⟨put7_blk kz _ _ _ _ _ _ _, put7_below HW4.out.1 HNB.out.1 _ _ _ _ _ _ _, HW4.out.2.2.2.fr (put7_fr (S := fun j => j = rb) (Fr.refl _ _) (.inl rfl) _ _ _ _ _ _ _) (fun g hg e => HON.out.2 (by rw [hg, e]))⟩
  clear kz
  go_wp2_with fail
  change bodyPost _ _ _ _ _ (put7 w4 rb (.slice uA Ln uc) (.int .i64 ls) (.int .i64 ln) (.int .i64 lg) (.int .i64 lh) (.bool lp) (.bool lc))
  generalize put7 w4 rb (.slice uA Ln uc) (.int .i64 ls) (.int .i64 ln) (.int .i64 lg) (.int .i64 lh) (.bool lp) (.bool lc) = w9 at *
  have c0 : w9.cell? ⟨rb, 0, none⟩ = some (.slice uA Ln uc) := HR9.out.1.cell 0
  have c1 : w9.cell? ⟨rb, 1, none⟩ = some (.int .i64 ls) := HR9.out.1.cell 1
  have c2 : w9.cell? ⟨rb, 2, none⟩ = some (.int .i64 ln) := HR9.out.1.cell 2
  have c3 : w9.cell? ⟨rb, 3, none⟩ = some (.int .i64 lg) := HR9.out.1.cell 3
  have c4 : w9.cell? ⟨rb, 4, none⟩ = some (.int .i64 lh) := HR9.out.1.cell 4
  have c5 : w9.cell? ⟨rb, 5, none⟩ = some (.bool lp) := HR9.out.1.cell 5
  have c6 : w9.cell? ⟨rb, 6, none⟩ = some (.bool lc) := HR9.out.1.cell 6
  have hres : Try.f14.results = #[.cell 4 cvT, .tmp 5] := by kernel_rfl
  refine bodyPost_ret (v := .tuple #[.agg #[.slice uA Ln uc, .int .i64 ls, .int .i64 ln, .int .i64 lg, .int .i64 lh, .bool lp, .bool lc], .bool kL]) ?_ rfl ⟨uA, uc, ?_, ?_, HR9.out.2.1⟩
  · simp [results, hres, go_sem, c0, c1, c2, c3, c4, c5, c6]
  · rw [HLN.out]
  · have h9 := HR9.out.2.2
    rw [← HLN.out] at h9
    exact h9

end Go.Proofs.Ytkobaidamdffmaa

namespace Go.Proofs.Ytkobaidamdffmaa
open Go.RowKit Go.Sort
set_option linter.unusedVariables false
set_option linter.unusedSimpArgs false

/-- the least stamp of what is open -/
def holdF (z : Int × Bool) (d : CD) : Int × Bool := if d.c = false ∧ (z.2 = false ∨ d.s < z.1) then (d.s, true) else z
def holdL (D : List CD) : Int × Bool := D.foldl holdF (0, false)
theorem holdF_comm (z : Int × Bool) (x y : CD) : holdF (holdF z x) y = holdF (holdF z y) x := by
  obtain ⟨m, o⟩ := z
  obtain ⟨xb, xs, xn, xg, xh, xp, xc⟩ := x
  obtain ⟨yb, ys, yn, yg, yh, yp, yc⟩ := y
  unfold holdF
  cases xc <;> cases yc <;> cases o <;> simp
  all_goals
    (repeat' split) <;> simp_all <;> omega
theorem holdL_perm {D E : List CD} (h : D.Perm E) : holdL D = holdL E := h.foldl_eq' (fun x _ y _ z => holdF_comm z x y) _
theorem holdL_snoc (D : List CD) (d : CD) : holdL (D ++ [d]) = holdF (holdL D) d := by
  unfold holdL
  rw [List.foldl_append]
  rfl
def cds (L : List (PK × CV)) : List CD := L.map (fun p => p.2.d)

set_option maxHeartbeats 4000000 in
theorem chold_any (w : World) (base tb cb : Nat) (wm fm : Option Nat) (bg : Bool) (L W : List (PK × CV)) (F : List (PK × Int)) (h : TabS w base tb cb wm fm bg L W F) :
    Calls Try.prog 53 #[.pointer (some ⟨tb, 0, none⟩)] w fun e w' => e = .returned (.tuple #[.int .i64 (holdL (cds L)).1, .bool (holdL (cds L)).2]) ∧ Below w.heap.size w w' := by
  obtain ⟨t0, t1, t2, t3, htl⟩ := h.open
  have HT := hide h
  have HM := hide h.map
  have hcl := h.map.lt
  clear h t1 t2 t3
  go_enter Try.func53, Try.ntmps53
  go_wp2_with (at_range; refine wpList_range_it rfl _ rfl cmU rfl HM.out ?_; intro ob hI0)
  go_frame
  have HI0 : Hid (ItR (w.alloc ob) cb w.heap.size plV cvV L [] ∧ Below w.heap.size w (w.alloc ob)) := ⟨hI0, (Below.refl _ _).alloc (Nat.le_refl _) _⟩
  clear hI0
  go_loopw [4, 5] (fun l o wr => ∃ (D : List (PK × CV)) (m : Int) (b : Bool), l = .int .i64 m ∧ o = .bool b ∧ Hid ((m, b) = holdL (cds D)) ∧ Hid (ItR wr cb w.heap.size plV cvV L D ∧ Below w.heap.size w wr)) (fun _ _ wr => itLeft wr cb w.heap.size)
  case atStart => exact ⟨[], 0, false, rfl, rfl, rfl, HI0.out⟩
  case round =>
    obtain ⟨D, m, b, rfl, rfl, HH, HI⟩ := hrel
    go_wp2_with (at_next; refine wpList_next_it' rfl _ rfl rfl HI.out.1 ?_ ?_)
    · intro hp
      have HF : Hid (holdL (cds L) = (m, b)) := by rw [Hid, HH.out]; exact holdL_perm (hp.map _)
      clear hp
      go_wp2_with fail
      go_ret2
      rw [HF.out]
      exact ⟨rfl, HI.out.2⟩
    · intro w2 kv vv hst
      obtain ⟨p, hkv, hvv, hp, hI2, hlt, hf2, hsz, hen⟩ := hst
      have hacc := (HT.out.acc p hp)
      obtain ⟨vA, vc, hvs, _⟩ := hacc.1.sl.form
      obtain ⟨⟨pk, pf, pt, pok⟩, ⟨cv, ⟨cb_, cs, cn, cg, ch, cp, cc⟩⟩⟩ := p
      simp only at hvs
      subst hvs
      have hkv2 : kv = .agg #[.string (strOfNums pk), .int .i64 pf, .int .i64 pt] := hkv
      have hvv2 : vv = .agg #[.slice vA cb_.length vc, .int .i64 cs, .int .i64 cn, .int .i64 cg, .int .i64 ch, .bool cp, .bool cc] := hvv
      clear hkv hvv hacc hp
      subst hkv2 hvv2
      have HI2 : Hid (∀ o, ItR (w2.alloc o) cb w.heap.size plV cvV L (D ++ [(⟨pk, pf, pt, pok⟩, ⟨.slice vA cb_.length vc, ⟨cb_, cs, cn, cg, ch, cp, cc⟩⟩)]) ∧ Below w.heap.size w (w2.alloc o)) := fun o =>
        ⟨hI2.below ((Below.refl _ _).alloc (Nat.le_refl _) o) hI2.lt.1 hI2.lt.2, (HI.out.2.trans (hf2.below HI.out.2.size (fun k hk e => by omega))).alloc (by rw [hsz]; exact HI.out.2.size) o⟩
      have HL : Hid (∀ o, itLeft (w2.alloc o) cb w.heap.size < itLeft wr cb w.heap.size) := fun o => by
        rw [(HI2.out o).1.left_eq, HI.out.1.left_eq, List.length_append]
        simp only [List.length_cons, List.length_nil]
        omega
      have HN : Hid (holdL (cds (D ++ [((⟨pk, pf, pt, pok⟩ : PK), (⟨.slice vA cb_.length vc, ⟨cb_, cs, cn, cg, ch, cp, cc⟩⟩ : CV))])) = if cc = false ∧ (b = false ∨ cs < m) then (cs, true) else (m, b)) := by
        rw [Hid, cds, List.map_append, List.map_singleton, holdL_snoc]
        rw [show holdL (List.map (fun p => p.2.d) D) = (m, b) from HH.out.symm]
        rfl
      clear hI2 hlt hf2 hsz
      generalize strOfNums pk = ps at *
      generalize cb_.length = cn_ at *
      cases cc
      · cases b
        · have HN2 : Hid ((cs, true) = holdL (cds (D ++ [((⟨pk, pf, pt, pok⟩ : PK), (⟨.slice vA cn_ vc, ⟨cb_, cs, cn, cg, ch, cp, false⟩⟩ : CV))]))) := by rw [Hid, HN.out]; simp
          go_wp2_with fail
          go_roundw
          case rel => exact ⟨_, cs, true, rfl, rfl, HN2, HI2.out _⟩
          case measure => exact HL.out _
        · by_cases hcm : cs < m
          · have HN2 : Hid ((cs, true) = holdL (cds (D ++ [((⟨pk, pf, pt, pok⟩ : PK), (⟨.slice vA cn_ vc, ⟨cb_, cs, cn, cg, ch, cp, false⟩⟩ : CV))]))) := by rw [Hid, HN.out]; simp [hcm]
            go_wp2_with fail
            go_roundw
            case rel => exact ⟨_, cs, true, rfl, rfl, HN2, HI2.out _⟩
            case measure => exact HL.out _
          · have HN2 : Hid ((m, true) = holdL (cds (D ++ [((⟨pk, pf, pt, pok⟩ : PK), (⟨.slice vA cn_ vc, ⟨cb_, cs, cn, cg, ch, cp, false⟩⟩ : CV))]))) := by rw [Hid, HN.out]; simp [hcm]
            go_wp2_with fail
            go_roundw
            case rel => exact ⟨_, m, true, rfl, rfl, HN2, HI2.out _⟩
            case measure => exact HL.out _
      · have HN2 : Hid ((m, b) = holdL (cds (D ++ [((⟨pk, pf, pt, pok⟩ : PK), (⟨.slice vA cn_ vc, ⟨cb_, cs, cn, cg, ch, cp, true⟩⟩ : CV))]))) := by rw [Hid, HN.out]; simp
        go_wp2_with fail
        go_roundw
        case rel => exact ⟨_, m, b, rfl, rfl, HN2, HI2.out _⟩
        case measure => exact HL.out _

end Go.Proofs.Ytkobaidamdffmaa

namespace Go.Proofs.Ytkobaidamdffmaa
open Go.RowKit Go.Sort
set_option linter.unusedVariables false
set_option linter.unusedSimpArgs false

set_option maxRecDepth 100000 in
set_option maxHeartbeats 4000000 in
theorem awake15 (w : World) : Calls Try.prog 9 #[] w fun e w' => e = .returned (.bool true) ∧ Below w.heap.size w w' := by
  go_enter Try.func9, Try.ntmps9
  go_wp2_with fail
  refine (cnew_any w w.heap.size (Nat.le_refl _)).mono ?_
  rintro e w1 ⟨tb, cb, rfl, ht, hb⟩
  have HT := hide ht
  have HB := hide hb
  clear ht hb
  go_wp2_with fail
  have HT2 : Hid (TabS ((w1.alloc (.cells #[.int .u8 1] bT)).alloc (.cells #[.slice (some ⟨w1.heap.size, 0, none⟩) 1 1, .int .i64 0, .int .i64 5] keyT)) w.heap.size tb cb none none false [] [] []) :=
    HT.out.below (((Below.refl w1.heap.size w1).alloc (Nat.le_refl _) _).alloc (by simp) _)
  have HB2 : Hid (Below w.heap.size w ((w1.alloc (.cells #[.int .u8 1] bT)).alloc (.cells #[.slice (some ⟨w1.heap.size, 0, none⟩) 1 1, .int .i64 0, .int .i64 5] keyT))) :=
    (HB.out.alloc HB.out.size _).alloc (by simp; have := HB.out.size; omega) _
  have HK2 : Hid (Own ((w1.alloc (.cells #[.int .u8 1] bT)).alloc (.cells #[.slice (some ⟨w1.heap.size, 0, none⟩) 1 1, .int .i64 0, .int .i64 5] keyT)) 0 bT 1 (.slice (some ⟨w1.heap.size, 0, none⟩) 1 1) 1 (bys [1])) :=
    (Own.new (n := 1) (sz := 1) (e := bT) w1 0 #[.int .u8 1] (by omega) (by omega) rfl).alloc _
  have HV2 : Hid (Blk ((w1.alloc (.cells #[.int .u8 1] bT)).alloc (.cells #[.slice (some ⟨w1.heap.size, 0, none⟩) 1 1, .int .i64 0, .int .i64 5] keyT)) (w1.heap.size + 1) keyT #[.slice (some ⟨w1.heap.size, 0, none⟩) 1 1, .int .i64 0, .int .i64 5]) := by
    have h9 := Blk.new (w1.alloc (.cells #[.int .u8 1] bT)) keyT #[.slice (some ⟨w1.heap.size, 0, none⟩) 1 1, .int .i64 0, .int .i64 5]
    simpa [Hid] using h9
  have HZ2 : Hid (w1.heap.size + 1 < ((w1.alloc (.cells #[.int .u8 1] bT)).alloc (.cells #[.slice (some ⟨w1.heap.size, 0, none⟩) 1 1, .int .i64 0, .int .i64 5] keyT)).heap.size) := by show _ < _; simp
  have HZ1 := hide HB.out.size
  generalize ((w1.alloc (.cells #[.int .u8 1] bT)).alloc (.cells #[.slice (some ⟨w1.heap.size, 0, none⟩) 1 1, .int .i64 0, .int .i64 5] keyT)) = w2 at *
  obtain ⟨kb, hkb⟩ : ∃ kb, kb = w1.heap.size := ⟨_, rfl⟩
  have hz1 := HZ1.out
  have hz2 := HZ2.out
  rw [← hkb] at HK2 HV2 hz2 ⊢
  clear hkb HT HB HZ1 HZ2
  refine (cput_any w2 w.heap.size tb cb w2.heap.size 1 1 0 0 none none false [] [] [] (some ⟨kb, 0, none⟩) none [1] 0 5 ⟨[], 4, 0, 0, 0, false, false⟩ HT2.out HK2.out.sl rfl (fun c hc => by simp at hc; omega) (fun X hX => Sl.nil _ _ _) rfl (fun c hc => by simp at hc) (Nat.le_refl _) HB2.out.size).mono ?_
  rintro e w3 (⟨hn, _, _⟩ | ⟨hr, rfl, p, hp1, hp2, hp3, c', hc', -, ht3, hf3⟩)
  · exact absurd (by decide) hn
  have HT3 := hide ht3
  have HB3 : Hid (Below w.heap.size w w3) := HB2.out.trans (hf3.below HB2.out.size (fun k hk h => by have := (HT2.out.lows k h).1; omega))
  have HV3 := hide (hf3.blk HV2.out (HT2.out.nblk HV2.out (by decide)))
  have HK3 := hide (HK2.out.fr hf3 (fun g hg => by obtain ⟨cs, hc⟩ := HK2.out.typed g hg; exact HT2.out.nblk hc (by decide)))
  have HLK : Hid (gv (lk (putM [] p c') p) = c' ∧ (lk (putM [] p c') p).isSome = true) := by
    rw [lk_put]; simp [gv, Hid]
  clear ht3 hf3 HT2 HB2 HV2 HK2 hr
  have v0 : w3.cell? ⟨kb + 1, 0, none⟩ = some (.slice (some ⟨kb, 0, none⟩) 1 1) := HV3.out.cell 0
  have v1 : w3.cell? ⟨kb + 1, 1, none⟩ = some (.int .i64 0) := HV3.out.cell 1
  have v2 : w3.cell? ⟨kb + 1, 2, none⟩ = some (.int .i64 5) := HV3.out.cell 2
  have hv := HV3.out.lt
  have HG : Hid (Calls Try.prog 14 #[.pointer (some ⟨tb, 0, none⟩), .agg #[.slice (some ⟨kb, 0, none⟩) 1 1, .int .i64 0, .int .i64 5]] w3 (GetP w3 ⟨[], 4, 0, 0, 0, false, false⟩ true)) := by
    have h9 := cget_any w3 w.heap.size tb cb w3.heap.size 1 1 none none false (putM [] p c') (kpW false [] [] [] p) (kpF false [] [] [] p) (some ⟨kb, 0, none⟩) p HT3.out (by rw [hp1]; exact HK3.out.sl) (by rw [hp1]; rfl) (Nat.le_refl _)
    rw [HLK.out.1, HLK.out.2, hc', hp2, hp3] at h9
    exact h9
  clear HLK hc' hp1 hp2 hp3 HT3 HK3
  go_wp2_with fail
  refine HG.out.mono ?_
  rintro e w4 ⟨uA, uc, rfl, ho, hb4⟩
  have HB4 : Hid (Below w.heap.size w w4) := HB3.out.trans (hb4.mono HB3.out.size)
  clear ho hb4 HG HB3 HV3 v0 v1 v2 hv
  have hz4 := HB4.out.size
  go_wp2_with fail
  go_ret
  refine ⟨rfl, ?_⟩
  exact HB4.out.alloc HB4.out.size _
end Go.Proofs.Ytkobaidamdffmaa

namespace Go.Proofs.Ytkobaidamdffmaa
open Go.RowKit Go.Sort
set_option linter.unusedVariables false
set_option linter.unusedSimpArgs false

theorem Own.slB {w : World} {base e sz n B : Nat} {v : Value} {xs : List Value} (h : Own w base e sz v n xs) (hB : ∀ g, v.ownBlock = some g → g < B) : Sl w B v sz n xs := by
  refine ⟨h.1, ?_⟩
  rcases h.2 with ⟨rfl, rfl⟩ | ⟨g, cap, cur, rfl, hb, hg, hc, hm, _⟩
  · exact ⟨none, 0, rfl, by omega, by omega, by omega⟩
  · exact ⟨_, cap, rfl, hc, by unfold maxLen at hm; omega, fun _ => ⟨_, rfl, hB g rfl, fun j u hu => h.cells (g := g) rfl j u hu⟩⟩
/-- a table that the law made -/
structure TabG (w0 wx : World) (tb cb : Nat) (wm fm : Option Nat) (bg : Bool) (L W : List (PK × CV)) (F : List (PK × Int)) : Prop where
  ts : TabS wx w0.heap.size tb cb wm fm bg L W F
  bl : Below w0.heap.size w0 wx
/-- blocks of other types than the table's stand -/
def Kt (w w' : World) : Prop := (∀ (g t : Nat) (cs : Array Value) (fr : Nat × Nat), t ≠ tabT → w.heap[g]? = some (.cells cs t fr) → w'.heap[g]? = some (.cells cs t fr)) ∧ w.heap.size ≤ w'.heap.size
theorem Kt.refl (w : World) : Kt w w := ⟨fun _ _ _ _ _ h => h, Nat.le_refl _⟩
theorem Kt.trans {w w1 w2 : World} (h : Kt w w1) (k : Kt w1 w2) : Kt w w2 := ⟨fun g t cs fr h1 hb => k.1 g t cs fr h1 (h.1 g t cs fr h1 hb), Nat.le_trans h.2 k.2⟩
theorem Kt.below {w w' : World} (h : Below w.heap.size w w') : Kt w w' := ⟨fun g t cs fr _ hb => ((Fr.of_below (S := nob) h).block g (Array.getElem?_eq_some_iff.1 hb).1 id).trans hb, h.size⟩
theorem Kt.blk {w w' : World} (h : Kt w w') {g t : Nat} {cs : Array Value} (hb : Blk w g t cs) (ht : t ≠ tabT) : Blk w' g t cs := h.1 g t cs _ ht hb
theorem Kt.own {w w' : World} (h : Kt w w') {base e sz n : Nat} {v : Value} {xs : List Value} (ho : Own w base e sz v n xs) (he : e ≠ tabT) : Own w' base e sz v n xs := by
  refine ho.to fun g hg => ?_
  obtain ⟨cs, hc⟩ := ho.typed g hg
  have h2 := h.1 g e cs _ he hc
  unfold Blk at hc
  rw [hc, h2]
theorem Kt.ro {w w' : World} (h : Kt w w') {base : Nat} {v : Value} {D : List Int} (ho : RoB w base v D) : RoB w' base v D := by
  obtain ⟨A, c, h1, h2, h3, h4⟩ := ho
  refine ⟨A, c, h1, h2, h3, fun hn => ?_⟩
  obtain ⟨g, cs, fr, h5, h6, h7, h8⟩ := h4 hn
  exact ⟨g, cs, fr, h5, h6, h.1 g bT cs fr (by decide) h7, h8⟩
/-- other blocks than the table's, of whatever mark -/
theorem TabS.nany {w : World} {base tb cb : Nat} {wm fm : Option Nat} {bg : Bool} {L W : List (PK × CV)} {F : List (PK × Int)} (h : TabS w base tb cb wm fm bg L W F) : ∀ (g t : Nat) (cs : Array Value) (fr : Nat × Nat), t ≠ tabT → w.heap[g]? = some (.cells cs t fr) → ¬ TBk tb cb wm fm bg g := by
  rintro g t cs fr ht hg (h1 | h1 | ⟨h0, h1⟩)
  · have hb := h.blk
    unfold Blk at hb
    rw [← h1, hg] at hb
    injection hb with hb
    injection hb with _ hb
    exact ht hb
  · obtain ⟨es, clock, hb, _⟩ := h.map
    rw [← h1, hg] at hb
    cases hb
  · obtain ⟨wb, fb, e1, e2, h3⟩ := h.beg h0
    rcases h1 with h1 | h1
    · rw [e1] at h1
      injection h1 with h1
      obtain ⟨es, clock, hb, _⟩ := h3.wm
      rw [h1, hg] at hb
      cases hb
    · rw [e2] at h1
      injection h1 with h1
      obtain ⟨es, clock, hb, _⟩ := h3.fm
      rw [h1, hg] at hb
      cases hb
section
variable {w0 w wx wy : World} {tb cb : Nat} {wm fm : Option Nat} {bg : Bool} {L W : List (PK × CV)} {F : List (PK × Int)}
theorem TabG.below (h : TabG w0 wx tb cb wm fm bg L W F) (b : Below wx.heap.size wx wy) : TabG w0 wy tb cb wm fm bg L W F := ⟨h.ts.below b, h.bl.trans (b.mono h.bl.size)⟩
theorem TabS.kt {base : Nat} (h : TabS wx base tb cb wm fm bg L W F) (hf : Fr (TBk tb cb wm fm bg) wx wy) : Kt wx wy := ⟨fun g t cs fr ht hb => (hf.block g (Array.getElem?_eq_some_iff.1 hb).1 (h.nany g t cs fr ht hb)).trans hb, hf.size⟩
theorem TabG.after (h : TabG w0 wx tb cb wm fm bg L W F) (hf : Fr (TBk tb cb wm fm bg) wx wy) : Below w0.heap.size w0 wy :=
  h.bl.trans (hf.below h.bl.size (fun k hk h9 => by have := (h.ts.lows k h9).1; omega))
end

theorem lkey_q (A : Option Addr) (n cc : Nat) (f t : Int) (a : Value) (s i g h : Int) (p c : Bool) (D : List Int) (B : Nat) (W X : World) (hs : Sl W B (.slice A n cc) 1 n (bys D)) (hD : D.length = n) (hn : n ≤ 140737488355328) (hB : B ≤ W.heap.size) (hX : Below W.heap.size W X) :
    Calls Try.prog 11 #[.agg #[.slice A n cc, .int .i64 f, .int .i64 t, a, .int .i64 s, .int .i64 i, .int .i64 g, .int .i64 h, .bool p, .bool c]] X fun e w' => ∃ uA uc, e = .returned (.agg #[.slice uA n uc, .int .i64 f, .int .i64 t]) ∧ Below W.heap.size W w' ∧ Own w' 0 bT 1 (.slice uA n uc) n (bys D) ∧ Below X.heap.size X w' := by
  refine (lkey_any A n cc f t a s i g h p c D B X (hs.below (hX.mono hB)) hD hn (Nat.le_trans hB hX.size)).mono ?_
  rintro e w' ⟨u, rfl, ho, hb⟩
  obtain ⟨uA, uc, rfl, _⟩ := ho.sl.form
  exact ⟨uA, uc, rfl, hX.trans (hb.mono hX.size), ho.lower (Nat.zero_le _), hb⟩
theorem lcell_q (A : Option Addr) (n cc : Nat) (f t : Int) (k : Value) (s i g h : Int) (p c : Bool) (D : List Int) (B : Nat) (W X : World) (hs : Sl W B (.slice A n cc) 1 n (bys D)) (hD : D.length = n) (hn : n ≤ 140737488355328) (hB : B ≤ W.heap.size) (hX : Below W.heap.size W X) :
    Calls Try.prog 12 #[.agg #[k, .int .i64 f, .int .i64 t, .slice A n cc, .int .i64 s, .int .i64 i, .int .i64 g, .int .i64 h, .bool p, .bool c]] X fun e w' => ∃ uA uc, e = .returned (.agg #[.slice uA n uc, .int .i64 s, .int .i64 i, .int .i64 g, .int .i64 h, .bool p, .bool c]) ∧ Below W.heap.size W w' ∧ Own w' 0 bT 1 (.slice uA n uc) n (bys D) ∧ Below X.heap.size X w' := by
  refine (lcell_any A n cc f t k s i g h p c D B X (hs.below (hX.mono hB)) hD hn (Nat.le_trans hB hX.size)).mono ?_
  rintro e w' ⟨u, rfl, ho, hb⟩
  obtain ⟨uA, uc, rfl, _⟩ := ho.sl.form
  exact ⟨uA, uc, rfl, hX.trans (hb.mono hX.size), ho.lower (Nat.zero_le _), hb⟩

/-- behind Put -/
def PutG (w0 X : World) (tb cb : Nat) (wm fm : Option Nat) (bg : Bool) (L W : List (PK × CV)) (F : List (PK × Int)) (kb : List Int) (f t : Int) (d : CD) (r : Int) (w' : World) : Prop :=
  Kt X w' ∧ ((¬ (keyR kb.length f t ∧ d.right) ∧ r = 150 ∧ TabG w0 w' tb cb wm fm bg L W F) ∨
    (d.right ∧ r = 0 ∧ ∃ p : PK, p.b = kb ∧ p.f = f ∧ p.t = t ∧ ∃ c' : CV, c'.d = d ∧ TabG w0 w' tb cb wm fm bg (putM L p c') (kpW bg L W F p) (kpF bg L W F p)))
theorem lput_q (w0 X : World) (tb cb kn kc an ac : Nat) (wm fm : Option Nat) (bg : Bool) (L W : List (PK × CV)) (F : List (PK × Int)) (kA aA : Option Addr) (kb : List Int) (f t : Int) (d : CD) (h : TabG w0 X tb cb wm fm bg L W F)
    (hk : Own X 0 bT 1 (.slice kA kn kc) kn (bys kb)) (hkn : kb.length = kn) (h8 : Bytes8 kb) (ha : Own X 0 bT 1 (.slice aA an ac) an (bys d.b)) (han : d.b.length = an) (ha8 : Bytes8 d.b) :
    Calls Try.prog 10 #[.pointer (some ⟨tb, 0, none⟩), .agg #[.slice kA kn kc, .int .i64 f, .int .i64 t], .agg #[.slice aA an ac, .int .i64 d.s, .int .i64 d.n, .int .i64 d.g, .int .i64 d.h, .bool d.p, .bool d.c]] X fun e w' => ∃ r, e = .returned (.int .i64 r) ∧ PutG w0 X tb cb wm fm bg L W F kb f t d r w' := by
  refine (cput_any X w0.heap.size tb cb X.heap.size kn kc an ac wm fm bg L W F kA aA kb f t d h.ts hk.sl hkn h8 (fun Y hY => ?_) han ha8 (Nat.le_refl _) h.bl.size).mono ?_
  · exact Own.slB ((h.ts.kt hY).own ha (by decide)) (fun g hg => (ha.lt g hg).2)
  · rintro e w3 (⟨hn, rfl, hb⟩ | ⟨hr, rfl, p, hp1, hp2, hp3, c', hc', -, ht3, hf3⟩)
    · exact ⟨_, rfl, Kt.below hb, .inl ⟨hn, rfl, h.below hb⟩⟩
    · exact ⟨_, rfl, h.ts.kt hf3, .inr ⟨hr, rfl, p, hp1, hp2, hp3, c', hc', ht3, h.after hf3⟩⟩

/-- behind Drop -/
def DropG (w0 X : World) (tb cb : Nat) (wm fm : Option Nat) (bg : Bool) (L W : List (PK × CV)) (F : List (PK × Int)) (kb : List Int) (f t : Int) (b : Bool) (r : Int) (w' : World) : Prop :=
  Kt X w' ∧ ((¬ keyR kb.length f t ∧ b = false ∧ r = 150 ∧ TabG w0 w' tb cb wm fm bg L W F) ∨
    (∃ p : PK, p.b = kb ∧ p.f = f ∧ p.t = t ∧ b = (lk L p).isSome ∧ r = 0 ∧ TabG w0 w' tb cb wm fm bg (delM L p) (if (lk L p).isSome then kpW bg L W F p else W) (if (lk L p).isSome then kpF bg L W F p else F)))
theorem ldrop_q (w0 X : World) (tb cb kn kc B : Nat) (wm fm : Option Nat) (bg : Bool) (L W : List (PK × CV)) (F : List (PK × Int)) (kA : Option Addr) (kb : List Int) (f t : Int) (h : TabG w0 X tb cb wm fm bg L W F)
    (hk : Sl X B (.slice kA kn kc) 1 kn (bys kb)) (hkn : kb.length = kn) (h8 : Bytes8 kb) (hB : B ≤ X.heap.size) :
    Calls Try.prog 15 #[.pointer (some ⟨tb, 0, none⟩), .agg #[.slice kA kn kc, .int .i64 f, .int .i64 t]] X fun e w' => ∃ b r, e = .returned (.tuple #[.bool b, .int .i64 r]) ∧ DropG w0 X tb cb wm fm bg L W F kb f t b r w' := by
  refine (cdrop_any X w0.heap.size tb cb B kn kc wm fm bg L W F kA kb f t h.ts hk hkn h8 hB).mono ?_
  rintro e w3 (⟨hn, rfl, hb⟩ | ⟨p, hp1, hp2, hp3, rfl, ht3, hf3⟩)
  · exact ⟨_, _, rfl, Kt.below hb, .inl ⟨hn, rfl, rfl, h.below hb⟩⟩
  · exact ⟨_, _, rfl, h.ts.kt hf3, .inr ⟨p, hp1, hp2, hp3, rfl, rfl, ht3, h.after hf3⟩⟩
end Go.Proofs.Ytkobaidamdffmaa
