/- cells.Table: New, Begin, keep. -/
import Derived.Test.YtkobaidamdffmaaQCellsDecodes03
import Derived.Deep.RegionHeld3
import Derived.Deep.CutRange
import Derived.BigRegion
import Derived.RegionTactic

namespace Go.Proofs.Ytkobaidamdffmaa
open Go.RowKit Go.Sort
set_option linter.unusedVariables false
set_option linter.unusedSimpArgs false

/-- seven cells are stored -/
def put7 (w : World) (nb : Nat) (a b c d e f g : Value) : World := ((((((w.setCell ⟨nb, 0, none⟩ a).setCell ⟨nb, 1, none⟩ b).setCell ⟨nb, 2, none⟩ c).setCell ⟨nb, 3, none⟩ d).setCell ⟨nb, 4, none⟩ e).setCell ⟨nb, 5, none⟩ f).setCell ⟨nb, 6, none⟩ g
theorem put7_blk {w : World} {nb t : Nat} {x0 x1 x2 x3 x4 x5 x6 : Value} (h : Blk w nb t #[x0, x1, x2, x3, x4, x5, x6]) (a b c d e f g : Value) : Blk (put7 w nb a b c d e f g) nb t #[a, b, c, d, e, f, g] :=
  by
  have h9 := ((((((h.put 0 a).put 1 b).put 2 c).put 3 d).put 4 e).put 5 f).put 6 g
  simpa [put7] using h9
theorem put7_fr {S : Nat → Prop} {w w1 : World} (h : Fr S w w1) {nb : Nat} (hn : S nb ∨ w.heap.size ≤ nb) (a b c d e f g : Value) : Fr S w (put7 w1 nb a b c d e f g) :=
  ((((((h.put (p := ⟨nb, 0, none⟩) hn a).put (p := ⟨nb, 1, none⟩) hn b).put (p := ⟨nb, 2, none⟩) hn c).put (p := ⟨nb, 3, none⟩) hn d).put (p := ⟨nb, 4, none⟩) hn e).put (p := ⟨nb, 5, none⟩) hn f).put (p := ⟨nb, 6, none⟩) hn g
theorem put7_below {w w1 : World} (h : Below w.heap.size w w1) {nb : Nat} (hn : w.heap.size ≤ nb) (a b c d e f g : Value) : Below w.heap.size w (put7 w1 nb a b c d e f g) := (put7_fr (Fr.of_below h : Fr nob w w1) (.inr hn) a b c d e f g).below0

theorem cnew_any (w : World) (base : Nat) (hb : base ≤ w.heap.size) : Calls Try.prog 8 #[] w fun e w' => ∃ tb cb, e = .returned (.pointer (some ⟨tb, 0, none⟩)) ∧ TabS w' base tb cb none none false [] [] [] ∧ Below w.heap.size w w' := by
  have hm : (Instr.makeMap cmT none).run Try.prog w = .ok (.map (some w.heap.size)) (w.alloc (.map #[] 0)) := rfl
  go_enter Try.func8, Try.ntmps8
  go_wp2_with fail
  go_ret
  refine ⟨w.heap.size + 1, w.heap.size, rfl, ⟨?_, ?_, fun p hp => (by cases hp), ⟨by omega, hb⟩, fun h => (by cases h)⟩, ((Below.refl w.heap.size w).alloc (Nat.le_refl _) _).alloc (by simp) _⟩
  · have h9 := Blk.new (w.alloc (.map #[] 0)) tabT #[.map (some w.heap.size), .map none, .map none, .bool false]
    simpa using h9
  · exact (MapR.new w plV cvV).to (Below.heap_alloc _ _ _ (by simp))

section
variable {w w' : World} {base tb cb : Nat} {wm fm : Option Nat} {bg : Bool} {L W : List (PK × CV)} {F : List (PK × Int)}
/-- what was is noted -/
theorem TabS.rewas {wb fb : Nat} (h : TabS w base tb cb (some wb) (some fb) true L W F) (hf : Fr (fun j => j = wb) w w') {W' : List (PK × CV)} (hm : MapR w' wb plV cvV W') (ha : ∀ p ∈ W', AccO w base p.2) : TabS w' base tb cb (some wb) (some fb) true L W' F := by
  obtain ⟨wb', fb', e1, e2, h3⟩ := h.beg rfl
  injection e1 with e1
  injection e2 with e2
  subst e1 e2
  have hb : ∀ g cs, Blk w g bT cs → ¬ (g = wb) := fun g cs hc e => h3.wm.ne_blk hc e.symm
  refine ⟨hf.blk h.blk (fun e => h3.wm.ne_blk h.blk e.symm), h.map.fr hf h3.ne.1, fun p hp => (h.acc p hp).fr hf hb, h.bs, fun _ => ⟨wb, fb, rfl, rfl, hm, h3.fm.fr hf (fun e => h3.ne.2.2 e.symm), fun p hp => (ha p hp).fr hf hb, h3.one, h3.bs, h3.ne⟩⟩
theorem TabS.refresh {wb fb : Nat} (h : TabS w base tb cb (some wb) (some fb) true L W F) (hf : Fr (fun j => j = fb) w w') {F' : List (PK × Int)} (hm : MapR w' fb plV intV F') (ha : ∀ p ∈ F', p.2 = 1) : TabS w' base tb cb (some wb) (some fb) true L W F' := by
  obtain ⟨wb', fb', e1, e2, h3⟩ := h.beg rfl
  injection e1 with e1
  injection e2 with e2
  subst e1 e2
  have hb : ∀ g cs, Blk w g bT cs → ¬ (g = fb) := fun g cs hc e => h3.fm.ne_blk hc e.symm
  refine ⟨hf.blk h.blk (fun e => h3.fm.ne_blk h.blk e.symm), h.map.fr hf h3.ne.2.1, fun p hp => (h.acc p hp).fr hf hb, h.bs, fun _ => ⟨wb, fb, rfl, rfl, h3.wm.fr hf h3.ne.2.2, hm, fun p hp => (h3.acc p hp).fr hf hb, ha, h3.bs, h3.ne⟩⟩
end

/-- a draw ahead is none -/
theorem Fr.drew0 {S : Nat → Prop} {w w' : World} (h : Fr S w.drew w') : Fr S w w' := ⟨h.os, h.tape, h.output, h.size, h.block⟩

/-- what a lookup gives -/
def gv (o : Option CV) : CV := o.getD ⟨.slice none 0 0, ⟨[], 0, 0, 0, 0, false, false⟩⟩
theorem gv_eq (o : Option CV) : (o.map cvV).getD cvZ = cvV (gv o) := by cases o <;> rfl
theorem gv_form {L : List (PK × CV)} {w : World} {base : Nat} (h : ∀ p ∈ L, AccO w base p.2) (a : PK) : ∃ A n c, (gv (lk L a)).v = .slice A n c := by
  cases hl : lk L a with
  | none => exact ⟨none, 0, 0, rfl⟩
  | some c =>
    obtain ⟨A, k, hv, _⟩ := (h _ (lk_mem hl)).1.sl.form
    exact ⟨A, _, k, hv⟩

/-- keep -/
def kpW (bg : Bool) (L W : List (PK × CV)) (F : List (PK × Int)) (p : PK) : List (PK × CV) :=
  if bg = true ∧ lk W p = none ∧ lk F p = none then (match lk L p with | some c => putM W p c | none => W) else W
def kpF (bg : Bool) (L W : List (PK × CV)) (F : List (PK × Int)) (p : PK) : List (PK × Int) :=
  if bg = true ∧ lk W p = none ∧ lk F p = none ∧ lk L p = none then putM F p 1 else F

set_option maxHeartbeats 8000000 in
theorem keep_any (w : World) (base tb cb : Nat) (wm fm : Option Nat) (bg : Bool) (L W : List (PK × CV)) (F : List (PK × Int)) (p : PK) (h : TabS w base tb cb wm fm bg L W F) :
    Calls Try.prog 35 #[.pointer (some ⟨tb, 0, none⟩), .agg #[.string (strOfNums p.b), .int .i64 p.f, .int .i64 p.t]] w fun e w' => e = .returned (.tuple #[]) ∧ TabS w' base tb cb wm fm bg L (kpW bg L W F p) (kpF bg L W F p) ∧ Fr (TBk tb cb wm fm bg) w w' := by
  obtain ⟨t0, t1, t2, t3, htl⟩ := h.open
  have HT := hide h
  cases bg with
  | false =>
    have HF : Hid (kpW false L W F p = W ∧ kpF false L W F p = F) := ⟨if_neg (by simp), if_neg (by simp)⟩
    clear h
    go_enter Try.func35, Try.ntmps35
    go_wp2_with fail
    refine bodyPost_ret (results_none rfl _ _ _) rfl ?_
    rw [HF.out.1, HF.out.2]
    exact ⟨rfl, HT.out.below ((Below.refl _ _).alloc (Nat.le_refl _) _), (Fr.refl _ _).alloc _⟩
  | true =>
    obtain ⟨wb, fb, rfl, rfl, hbeg⟩ := h.beg rfl
    have HLW : Hid (∀ X : World, Below w.heap.size w X → (Instr.lookup cmT (.map (some wb)) (plV p) true).run Try.prog X = .ok (.tuple #[cvV (gv (lk W p)), .bool (lk W p).isSome]) X) := fun X hX => by
      have h9 := (hbeg.wm.below hX hbeg.wm.lt).look plW cmU zeroCv p true (P := Try.prog)
      rw [gv_eq] at h9
      exact h9
    have HLL : Hid (∀ X : World, Below w.heap.size w X → (Instr.lookup cmT (.map (some cb)) (plV p) true).run Try.prog X = .ok (.tuple #[cvV (gv (lk L p)), .bool (lk L p).isSome]) X) := fun X hX => by
      have h9 := (h.map.below hX h.map.lt).look plW cmU zeroCv p true (P := Try.prog)
      rw [gv_eq] at h9
      exact h9
    have HLF : Hid (∀ X : World, Below w.heap.size w X → (Instr.lookup fmT (.map (some fb)) (plV p) false).run Try.prog X = .ok (((lk F p).map intV).getD (.int .i64 0)) X) := fun X hX =>
      (hbeg.fm.below hX hbeg.fm.lt).look plW fmU zeroInt p false (P := Try.prog)
    have hfv : (lk F p = none ∧ ((lk F p).map intV).getD (.int .i64 0) = .int .i64 0) ∨ (lk F p = some 1 ∧ ((lk F p).map intV).getD (.int .i64 0) = .int .i64 1) := by
      cases hl : lk F p with
      | none => exact .inl ⟨rfl, rfl⟩
      | some n =>
        have h9 := hbeg.one _ (lk_mem hl)
        simp only at h9
        subst h9
        exact .inr ⟨rfl, rfl⟩
    have HACC : Hid (∀ c, lk L p = some c → AccO w base c) := fun c hc => h.acc _ (lk_mem hc)
    have HONE := hide hbeg.one
    have HWA := hide hbeg.acc
    obtain ⟨WA, Wn, Wc, hwv⟩ := gv_form hbeg.acc p
    obtain ⟨LA, Ln, Lc, hlv⟩ := gv_form h.acc p
    have hkW : (lk W p).isSome = true ∨ ((lk W p).isSome = false ∧ lk W p = none) := by
      cases lk W p with
      | none => exact .inr ⟨rfl, rfl⟩
      | some c => exact .inl rfl
    have hkL : ((lk L p).isSome = true ∧ lk L p = some (gv (lk L p))) ∨ ((lk L p).isSome = false ∧ lk L p = none) := by
      cases lk L p with
      | none => exact .inr ⟨rfl, rfl⟩
      | some c => exact .inl ⟨rfl, rfl⟩
    have HPV : Hid (plV p = .agg #[.string (strOfNums p.b), .int .i64 p.f, .int .i64 p.t]) := rfl
    have HUW : Hid (∀ X : World, TabS X base tb cb (some wb) (some fb) true L W F → ∀ c : CV, AccO X base c → ∃ w', (Instr.mapUpdate cmT (.map (some wb)) (plV p) (cvV c)).run Try.prog X = .ok () w' ∧ TabS w' base tb cb (some wb) (some fb) true L (putM W p c) F ∧ Fr (TBk tb cb (some wb) (some fb) true) X w') := fun X hX c hc => by
      obtain ⟨wb', fb', e1, e2, h3⟩ := hX.beg rfl
      injection e1 with e1
      injection e2 with e2
      subst e1 e2
      obtain ⟨w', hr, hm, hf, _⟩ := h3.wm.upd plW cmU p c (P := Try.prog)
      exact ⟨w', hr, hX.rewas hf hm (fun q hq => by
        rcases mem_put hq with h9 | h9
        · exact h3.acc q h9
        · rw [h9]; exact hc), hf.mono (fun k _ e => .inr (.inr ⟨rfl, .inl (by rw [e])⟩))⟩
    have HUF : Hid (∀ X : World, TabS X base tb cb (some wb) (some fb) true L W F → ∃ w', (Instr.mapUpdate fmT (.map (some fb)) (plV p) (intV 1)).run Try.prog X = .ok () w' ∧ TabS w' base tb cb (some wb) (some fb) true L W (putM F p 1) ∧ Fr (TBk tb cb (some wb) (some fb) true) X w') := fun X hX => by
      obtain ⟨wb', fb', e1, e2, h3⟩ := hX.beg rfl
      injection e1 with e1
      injection e2 with e2
      subst e1 e2
      obtain ⟨w', hr, hm, hf, _⟩ := h3.fm.upd plW fmU p 1 (P := Try.prog)
      exact ⟨w', hr, hX.refresh hf hm (fun q hq => by
        rcases mem_put hq with h9 | h9
        · exact h3.one q h9
        · rw [h9]), hf.mono (fun k _ e => .inr (.inr ⟨rfl, .inr (by rw [e])⟩))⟩
    have HRES : Hid ((lk W p).isSome = true ∨ lk F p = some 1 → kpW true L W F p = W ∧ kpF true L W F p = F) := fun h9 => by
      have h8 : ¬ (lk W p = none ∧ lk F p = none) := by
        rintro ⟨h7, h6⟩
        rcases h9 with h9 | h9
        · rw [h7] at h9; cases h9
        · rw [h6] at h9; cases h9
      exact ⟨if_neg (fun h => h8 h.2), if_neg (fun h => h8 ⟨h.2.1, h.2.2.1⟩)⟩
    have HRES2 : Hid (lk W p = none → lk F p = none → ∀ c, lk L p = some c → kpW true L W F p = putM W p c ∧ kpF true L W F p = F) := fun h1 h2 c h3 =>
      ⟨by unfold kpW; rw [if_pos ⟨rfl, h1, h2⟩, h3], if_neg (fun h => by rw [h3] at h; cases h.2.2.2)⟩
    have HRES3 : Hid (lk W p = none → lk F p = none → lk L p = none → kpW true L W F p = W ∧ kpF true L W F p = putM F p 1) := fun h1 h2 h3 =>
      ⟨by unfold kpW; rw [if_pos ⟨rfl, h1, h2⟩, h3], if_pos ⟨rfl, h1, h2, h3⟩⟩
    obtain ⟨W7, hW7⟩ : ∃ W7, W7 = gv (lk W p) := ⟨_, rfl⟩
    obtain ⟨L7, hL7⟩ : ∃ L7, L7 = gv (lk L p) := ⟨_, rfl⟩
    rw [← hW7] at HLW hwv
    rw [← hL7] at HLL hlv hkL
    obtain ⟨kW, hkw⟩ : ∃ kW, kW = (lk W p).isSome := ⟨_, rfl⟩
    obtain ⟨kL, hkl⟩ : ∃ kL, kL = (lk L p).isSome := ⟨_, rfl⟩
    rw [← hkw] at HLW hkW HRES
    rw [← hkl] at HLL hkL
    obtain ⟨fv, hfe⟩ : ∃ fv, fv = ((lk F p).map intV).getD (.int .i64 0) := ⟨_, rfl⟩
    rw [← hfe] at HLF hfv
    have HKW := hide hkW
    have HKL := hide hkL
    have HFV := hide hfv
    clear h hbeg hkW hkL hfv hW7 hL7 hkw hkl hfe
    obtain ⟨wv, wb7, ws, wn, wg, wh, wp, wcl⟩ := W7
    obtain ⟨lv, lb, ls, ln, lg, lh, lp, lc⟩ := L7
    simp only at hwv hlv
    subst hwv hlv
    unfold cvV CV.cells at HLW HLL
    simp only at HLW HLL
    rw [HPV.out] at HLW HLL HLF HUW HUF
    generalize hps : strOfNums p.b = ps at *
    generalize hpf : p.f = pf at *
    generalize hpt : p.t = pt at *
    clear hps hpf hpt
    have HB1 : Hid (Below w.heap.size w (w.alloc (.cells #[.string ps, .int .i64 pf, .int .i64 pt] plT))) := (Below.refl _ _).alloc (Nat.le_refl _) _
    have HP1 : Hid (Blk (w.alloc (.cells #[.string ps, .int .i64 pf, .int .i64 pt] plT)) w.heap.size plT #[.string ps, .int .i64 pf, .int .i64 pt]) := Blk.new w _ _
    go_enter Try.func35, Try.ntmps35
    go_upto_region 2 with fail
    generalize w.alloc (.cells #[.string ps, .int .i64 pf, .int .i64 pt] plT) = w1 at *
    obtain ⟨pb, hpb⟩ : ∃ pb, pb = w.heap.size := ⟨_, rfl⟩
    rw [← hpb] at HP1 ⊢
    have HPB : Hid (w.heap.size ≤ pb ∧ pb < w1.heap.size) := ⟨by rw [hpb]; exact Nat.le_refl _, HP1.out.lt⟩
    clear hpb t0 t1 t2 t3 htl
    have HT1 := hide (HT.out.below HB1.out)
    have HS : Hid (∀ X : World, Below w1.heap.size w1 X → (fun X : World => X.cell? ⟨tb, 0, none⟩ = some (.map (some cb)) ∧ X.cell? ⟨tb, 1, none⟩ = some (.map (some wb)) ∧ X.cell? ⟨pb, 0, none⟩ = some (.string ps) ∧ X.cell? ⟨pb, 1, none⟩ = some (.int .i64 pf) ∧ X.cell? ⟨pb, 2, none⟩ = some (.int .i64 pt) ∧ (Instr.lookup cmT (.map (some wb)) (.agg #[.string ps, .int .i64 pf, .int .i64 pt]) true).run Try.prog X = .ok (.tuple #[.agg #[.slice WA Wn Wc, .int .i64 ws, .int .i64 wn, .int .i64 wg, .int .i64 wh, .bool wp, .bool wcl], .bool kW]) X ∧ (Instr.lookup cmT (.map (some cb)) (.agg #[.string ps, .int .i64 pf, .int .i64 pt]) true).run Try.prog X = .ok (.tuple #[.agg #[.slice LA Ln Lc, .int .i64 ls, .int .i64 ln, .int .i64 lg, .int .i64 lh, .bool lp, .bool lc], .bool kL]) X) X) := fun X hX => by
      have h1 := HT1.out.below hX
      have h2 := HP1.out.below hX HPB.out.2
      have h3 := HB1.out.trans (hX.mono HB1.out.size)
      exact ⟨h1.blk.cell 0, h1.blk.cell 1, h2.cell 0, h2.cell 1, h2.cell 2, HLW.out X h3, HLL.out X h3⟩
    have HD1 : Hid (∀ X : World, Below w1.heap.size w1 X → Below w1.heap.size w1 X.drew) := fun X hX => hX.drewN 1
    have HA1 : Hid (∀ (X : World) (o : Obj), Below w1.heap.size w1 X → Below w1.heap.size w1 (X.alloc o)) := fun X o hX => hX.alloc hX.size o
    have HR1 := hide (Below.refl w1.heap.size w1)
    have HSET : Hid (∀ (X : World) (nb : Nat) (a b c d e f g : Value), Below w1.heap.size w1 X → w1.heap.size ≤ nb → (fun X : World => X.cell? ⟨tb, 0, none⟩ = some (.map (some cb)) ∧ X.cell? ⟨tb, 1, none⟩ = some (.map (some wb)) ∧ X.cell? ⟨pb, 0, none⟩ = some (.string ps) ∧ X.cell? ⟨pb, 1, none⟩ = some (.int .i64 pf) ∧ X.cell? ⟨pb, 2, none⟩ = some (.int .i64 pt) ∧ (Instr.lookup cmT (.map (some wb)) (.agg #[.string ps, .int .i64 pf, .int .i64 pt]) true).run Try.prog X = .ok (.tuple #[.agg #[.slice WA Wn Wc, .int .i64 ws, .int .i64 wn, .int .i64 wg, .int .i64 wh, .bool wp, .bool wcl], .bool kW]) X ∧ (Instr.lookup cmT (.map (some cb)) (.agg #[.string ps, .int .i64 pf, .int .i64 pt]) true).run Try.prog X = .ok (.tuple #[.agg #[.slice LA Ln Lc, .int .i64 ls, .int .i64 ln, .int .i64 lg, .int .i64 lh, .bool lp, .bool lc], .bool kL]) X) (World.drew (((((((X.setCell ⟨nb, 0, none⟩ a).setCell ⟨nb, 1, none⟩ b).setCell ⟨nb, 2, none⟩ c).setCell ⟨nb, 3, none⟩ d).setCell ⟨nb, 4, none⟩ e).setCell ⟨nb, 5, none⟩ f).setCell ⟨nb, 6, none⟩ g))) := fun X nb a b c d e f g hX hn => HS.out _ ((put7_below hX hn a b c d e f g).drewN 1)
    have HZ7 : Hid (∀ (X : World) (nb : Nat) (a b c d e f g : Value), X.heap.size = nb → Below w1.heap.size w1 X → Below w1.heap.size w1 ((((((((X.alloc (.cells #[.slice none 0 0, .int .i64 0, .int .i64 0, .int .i64 0, .int .i64 0, .bool false, .bool false] cvT)).setCell ⟨nb, 0, none⟩ a).setCell ⟨nb, 1, none⟩ b).setCell ⟨nb, 2, none⟩ c).setCell ⟨nb, 3, none⟩ d).setCell ⟨nb, 4, none⟩ e).setCell ⟨nb, 5, none⟩ f).setCell ⟨nb, 6, none⟩ g) ∧ Blk ((((((((X.alloc (.cells #[.slice none 0 0, .int .i64 0, .int .i64 0, .int .i64 0, .int .i64 0, .bool false, .bool false] cvT)).setCell ⟨nb, 0, none⟩ a).setCell ⟨nb, 1, none⟩ b).setCell ⟨nb, 2, none⟩ c).setCell ⟨nb, 3, none⟩ d).setCell ⟨nb, 4, none⟩ e).setCell ⟨nb, 5, none⟩ f).setCell ⟨nb, 6, none⟩ g) nb cvT #[a, b, c, d, e, f, g]) := fun X nb a b c d e f g hn hX => by
      subst hn
      exact ⟨put7_below (hX.alloc hX.size _) hX.size _ _ _ _ _ _ _, put7_blk (Blk.new X _ _) _ _ _ _ _ _ _⟩
    go_cut [4, 5] from 13 to 21 (fun q4 q5 wx => q5 = .bool kW ∧ Hid (Below w1.heap.size w1 wx))
    case first =>
      obtain ⟨s0, s1, s2, s3, s4, s5, s6⟩ := HS.out w1 HR1.out
      go_region_held3 (fun X : World => X.cell? ⟨tb, 0, none⟩ = some (.map (some cb)) ∧ X.cell? ⟨tb, 1, none⟩ = some (.map (some wb)) ∧ X.cell? ⟨pb, 0, none⟩ = some (.string ps) ∧ X.cell? ⟨pb, 1, none⟩ = some (.int .i64 pf) ∧ X.cell? ⟨pb, 2, none⟩ = some (.int .i64 pt) ∧ (Instr.lookup cmT (.map (some wb)) (.agg #[.string ps, .int .i64 pf, .int .i64 pt]) true).run Try.prog X = .ok (.tuple #[.agg #[.slice WA Wn Wc, .int .i64 ws, .int .i64 wn, .int .i64 wg, .int .i64 wh, .bool wp, .bool wcl], .bool kW]) X ∧ (Instr.lookup cmT (.map (some cb)) (.agg #[.string ps, .int .i64 pf, .int .i64 pt]) true).run Try.prog X = .ok (.tuple #[.agg #[.slice LA Ln Lc, .int .i64 ls, .int .i64 ln, .int .i64 lg, .int .i64 lh, .bool lp, .bool lc], .bool kL]) X) (first
        | with_reducible exact HS.out _ (HD1.out _ HR1.out)
        | with_reducible exact HS.out _ (HD1.out _ (HA1.out _ _ HR1.out))
        | with_reducible exact HS.out _ HR1.out
        | with_reducible exact HSET.out _ _ _ _ _ _ _ _ _ (HA1.out _ _ HR1.out) (Nat.le_refl _)) (fail)
      all_goals
        go_wp2_with fail
        go_meet
        case rel => first
          | exact ⟨rfl, HD1.out _ (HA1.out _ _ HR1.out)⟩
          | exact ⟨rfl, HD1.out _ (HZ7.out w1 w1.heap.size _ _ _ _ _ _ _ rfl HR1.out).1⟩
    case rest =>
    obtain ⟨rfl, HBC⟩ := hcut
    go_upto_region 3 with fail
    go_cut [6, 7] from 22 to 30 (fun q6 q7 wx => ∃ nb, q6 = .pointer (some ⟨nb, 0, none⟩) ∧ q7 = .bool kL ∧ Hid (Below w1.heap.size w1 wx ∧ Blk wx nb cvT #[.slice LA Ln Lc, .int .i64 ls, .int .i64 ln, .int .i64 lg, .int .i64 lh, .bool lp, .bool lc]))
    case first =>
      obtain ⟨s0, s1, s2, s3, s4, s5, s6⟩ := HS.out wc HBC.out
      go_region_held3 (fun X : World => X.cell? ⟨tb, 0, none⟩ = some (.map (some cb)) ∧ X.cell? ⟨tb, 1, none⟩ = some (.map (some wb)) ∧ X.cell? ⟨pb, 0, none⟩ = some (.string ps) ∧ X.cell? ⟨pb, 1, none⟩ = some (.int .i64 pf) ∧ X.cell? ⟨pb, 2, none⟩ = some (.int .i64 pt) ∧ (Instr.lookup cmT (.map (some wb)) (.agg #[.string ps, .int .i64 pf, .int .i64 pt]) true).run Try.prog X = .ok (.tuple #[.agg #[.slice WA Wn Wc, .int .i64 ws, .int .i64 wn, .int .i64 wg, .int .i64 wh, .bool wp, .bool wcl], .bool kW]) X ∧ (Instr.lookup cmT (.map (some cb)) (.agg #[.string ps, .int .i64 pf, .int .i64 pt]) true).run Try.prog X = .ok (.tuple #[.agg #[.slice LA Ln Lc, .int .i64 ls, .int .i64 ln, .int .i64 lg, .int .i64 lh, .bool lp, .bool lc], .bool kL]) X) (first
        | with_reducible exact HS.out _ (HD1.out _ HBC.out)
        | with_reducible exact HS.out _ (HD1.out _ (HA1.out _ _ HBC.out))
        | with_reducible exact HS.out _ HBC.out
        | with_reducible exact HSET.out _ _ _ _ _ _ _ _ _ (HA1.out _ _ HBC.out) HBC.out.size) (fail)
      all_goals
        go_wp2_with fail
        go_meet
        case rel => first
          | exact ⟨_, rfl, rfl, HD1.out _ (HA1.out _ _ HBC.out), (Blk.new _ _ _).drew⟩
          | exact ⟨_, rfl, rfl, HD1.out _ (HZ7.out wc wc.heap.size _ _ _ _ _ _ _ rfl HBC.out).1, (HZ7.out wc wc.heap.size _ _ _ _ _ _ _ rfl HBC.out).2.drew⟩
    case rest =>
    obtain ⟨nb, rfl, rfl, HBD⟩ := hcut
    have HT3 := hide (HT1.out.below HBD.out.1)
    have HP3 := hide (HP1.out.below HBD.out.1 HPB.out.2)
    have HN3 := hide HBD.out.2
    have HB3 := hide (HB1.out.trans (HBD.out.1.mono HB1.out.size))
    have HTB : Hid (TBk tb cb (some wb) (some fb) true = TBk tb cb (some wb) (some fb) true) := rfl
    clear HBC HBD HS HD1 HA1 HR1 HZ7 HSET HLW HLL
    have hkW2 := HKW.out
    have hkL2 := HKL.out
    rcases hkW2 with rfl | ⟨rfl, hW0⟩
    · have HF := hide (HRES.out (.inl rfl))
      clear HRES HRES2 HRES3 hkL2
      go_upto_region 5 with fail
      go_quiet (fail)
      go_wp2_with fail
      go_end0
      rw [HF.out.1, HF.out.2]
      exact ⟨rfl, HT3.out.below ((Below.refl _ _).drewN _), (Fr.of_below HB3.out : Fr (TBk tb cb (some wb) (some fb) true) w wc).drewN _⟩
    · go_upto_region 5 with fail
      have z0 := Aft.cell (HT3.out.blk.cell 2) HT3.out.blk.lt
      have z1 := Aft.cell (HP3.out.cell 0) HP3.out.lt
      have z2 := Aft.cell (HP3.out.cell 1) HP3.out.lt
      have z3 := Aft.cell (HP3.out.cell 2) HP3.out.lt
      simp at z0 z1 z2 z3
      have z4 : ∀ q : Aft wc, (Instr.lookup fmT (.map (some fb)) (.agg #[.string ps, .int .i64 pf, .int .i64 pt]) false).run Try.prog q.w' = .ok fv q.w' := fun q => HLF.out _ (HB3.out.trans (q.h.mono HB3.out.size))
      rcases HFV.out with ⟨hF0, rfl⟩ | ⟨hF1, rfl⟩
      · have HW0 := hide hW0
        have HF0 := hide hF0
        clear hW0 hF0 HRES
        refine wp_region_aft (by kernel_rfl) (by kernel_rfl) ?_
        repeat (go_big_quiet_step (fail))
        refine wpQuiet_nil ?_
        intro w9 hb9
        have HT9 := hide (HT3.out.below hb9)
        have HP9 := hide (HP3.out.below hb9 HP3.out.lt)
        have HN9 := hide (HN3.out.below hb9 HN3.out.lt)
        have HB9 := hide (HB3.out.trans (hb9.mono HB3.out.size))
        clear hb9 z0 z1 z2 z3 z4
        have t1 : w9.cell? ⟨tb, 1, none⟩ = some (.map (some wb)) := HT9.out.blk.cell 1
        have t2 : w9.cell? ⟨tb, 2, none⟩ = some (.map (some fb)) := HT9.out.blk.cell 2
        have p0 : w9.cell? ⟨pb, 0, none⟩ = some (.string ps) := HP9.out.cell 0
        have p1 : w9.cell? ⟨pb, 1, none⟩ = some (.int .i64 pf) := HP9.out.cell 1
        have p2 : w9.cell? ⟨pb, 2, none⟩ = some (.int .i64 pt) := HP9.out.cell 2
        rcases hkL2 with ⟨rfl, hL1⟩ | ⟨rfl, hL0⟩
        · have HF := hide (HRES2.out HW0.out HF0.out _ hL1)
          have HA9 := hide ((HACC.out _ hL1).below HB9.out)
          obtain ⟨w8, hrun, hT8, hf8⟩ := HUW.out w9.drew (HT9.out.below ((Below.refl _ _).drewN 1)) _ (HA9.out.below ((Below.refl _ _).drewN 1))
          have HT8 := hide hT8
          have HF8 := hide hf8
          have n0 : w9.cell? ⟨nb, 0, none⟩ = some (.slice LA Ln Lc) := HN9.out.cell 0
          have n1 : w9.cell? ⟨nb, 1, none⟩ = some (.int .i64 ls) := HN9.out.cell 1
          have n2 : w9.cell? ⟨nb, 2, none⟩ = some (.int .i64 ln) := HN9.out.cell 2
          have n3 : w9.cell? ⟨nb, 3, none⟩ = some (.int .i64 lg) := HN9.out.cell 3
          have n4 : w9.cell? ⟨nb, 4, none⟩ = some (.int .i64 lh) := HN9.out.cell 4
          have n5 : w9.cell? ⟨nb, 5, none⟩ = some (.bool lp) := HN9.out.cell 5
          have n6 : w9.cell? ⟨nb, 6, none⟩ = some (.bool lc) := HN9.out.cell 6
          have HK : Hid (w9.cell? ⟨tb, 1, none⟩ = some (.map (some wb)) ∧ w9.cell? ⟨pb, 0, none⟩ = some (.string ps) ∧ w9.cell? ⟨pb, 1, none⟩ = some (.int .i64 pf) ∧ w9.cell? ⟨pb, 2, none⟩ = some (.int .i64 pt) ∧ w9.cell? ⟨nb, 0, none⟩ = some (.slice LA Ln Lc) ∧ w9.cell? ⟨nb, 1, none⟩ = some (.int .i64 ls) ∧ w9.cell? ⟨nb, 2, none⟩ = some (.int .i64 ln) ∧ w9.cell? ⟨nb, 3, none⟩ = some (.int .i64 lg) ∧ w9.cell? ⟨nb, 4, none⟩ = some (.int .i64 lh) ∧ w9.cell? ⟨nb, 5, none⟩ = some (.bool lp) ∧ w9.cell? ⟨nb, 6, none⟩ = some (.bool lc)) := ⟨t1, p0, p1, p2, n0, n1, n2, n3, n4, n5, n6⟩
          have HKD : Hid (w9.drew.cell? ⟨tb, 1, none⟩ = some (.map (some wb)) ∧ w9.drew.cell? ⟨pb, 0, none⟩ = some (.string ps) ∧ w9.drew.cell? ⟨pb, 1, none⟩ = some (.int .i64 pf) ∧ w9.drew.cell? ⟨pb, 2, none⟩ = some (.int .i64 pt) ∧ w9.drew.cell? ⟨nb, 0, none⟩ = some (.slice LA Ln Lc) ∧ w9.drew.cell? ⟨nb, 1, none⟩ = some (.int .i64 ls) ∧ w9.drew.cell? ⟨nb, 2, none⟩ = some (.int .i64 ln) ∧ w9.drew.cell? ⟨nb, 3, none⟩ = some (.int .i64 lg) ∧ w9.drew.cell? ⟨nb, 4, none⟩ = some (.int .i64 lh) ∧ w9.drew.cell? ⟨nb, 5, none⟩ = some (.bool lp) ∧ w9.drew.cell? ⟨nb, 6, none⟩ = some (.bool lc)) := ⟨t1, p0, p1, p2, n0, n1, n2, n3, n4, n5, n6⟩
          have hP8 := HF8.out.drew0.blk HP9.out (HT9.out.nblk HP9.out (by decide))
          have hN8 := HF8.out.drew0.blk HN9.out (HT9.out.nblk HN9.out (by decide))
          have HK8 : Hid (w8.cell? ⟨tb, 1, none⟩ = some (.map (some wb)) ∧ w8.cell? ⟨pb, 0, none⟩ = some (.string ps) ∧ w8.cell? ⟨pb, 1, none⟩ = some (.int .i64 pf) ∧ w8.cell? ⟨pb, 2, none⟩ = some (.int .i64 pt) ∧ w8.cell? ⟨nb, 0, none⟩ = some (.slice LA Ln Lc) ∧ w8.cell? ⟨nb, 1, none⟩ = some (.int .i64 ls) ∧ w8.cell? ⟨nb, 2, none⟩ = some (.int .i64 ln) ∧ w8.cell? ⟨nb, 3, none⟩ = some (.int .i64 lg) ∧ w8.cell? ⟨nb, 4, none⟩ = some (.int .i64 lh) ∧ w8.cell? ⟨nb, 5, none⟩ = some (.bool lp) ∧ w8.cell? ⟨nb, 6, none⟩ = some (.bool lc)) := ⟨HT8.out.blk.cell 1, hP8.cell 0, hP8.cell 1, hP8.cell 2, hN8.cell 0, hN8.cell 1, hN8.cell 2, hN8.cell 3, hN8.cell 4, hN8.cell 5, hN8.cell 6⟩
          clear hP8 hN8
          have hrun2 : (Instr.mapUpdate cmT (.map (some wb)) (.agg #[.string ps, .int .i64 pf, .int .i64 pt]) (.agg #[.slice LA Ln Lc, .int .i64 ls, .int .i64 ln, .int .i64 lg, .int .i64 lh, .bool lp, .bool lc])).run Try.prog w9.drew = .ok () w8 := hrun
          clear hL1 hT8 hf8 HRES2 HRES3 HUW HUF hrun
          go_wp2_with fail
          go_region_held3 (fun X : World => X.cell? ⟨tb, 1, none⟩ = some (.map (some wb)) ∧ X.cell? ⟨pb, 0, none⟩ = some (.string ps) ∧ X.cell? ⟨pb, 1, none⟩ = some (.int .i64 pf) ∧ X.cell? ⟨pb, 2, none⟩ = some (.int .i64 pt) ∧ X.cell? ⟨nb, 0, none⟩ = some (.slice LA Ln Lc) ∧ X.cell? ⟨nb, 1, none⟩ = some (.int .i64 ls) ∧ X.cell? ⟨nb, 2, none⟩ = some (.int .i64 ln) ∧ X.cell? ⟨nb, 3, none⟩ = some (.int .i64 lg) ∧ X.cell? ⟨nb, 4, none⟩ = some (.int .i64 lh) ∧ X.cell? ⟨nb, 5, none⟩ = some (.bool lp) ∧ X.cell? ⟨nb, 6, none⟩ = some (.bool lc)) (first | with_reducible exact HK.out | with_reducible exact HKD.out | with_reducible exact HK8.out) (fail)
          go_wp2_with fail
          go_end0
          rw [HF.out.1, HF.out.2]
          exact ⟨rfl, HT8.out, ((Fr.of_below HB9.out : Fr (TBk tb cb (some wb) (some fb) true) w w9).drew).trans HF8.out (fun _ _ h => h)⟩
        · have HF := hide (HRES3.out HW0.out HF0.out hL0)
          obtain ⟨w8, hrun, hT8, hf8⟩ := HUF.out w9.drew (HT9.out.below ((Below.refl _ _).drewN 1))
          have HT8 := hide hT8
          have HF8 := hide hf8
          have HK : Hid (w9.cell? ⟨tb, 2, none⟩ = some (.map (some fb)) ∧ w9.cell? ⟨pb, 0, none⟩ = some (.string ps) ∧ w9.cell? ⟨pb, 1, none⟩ = some (.int .i64 pf) ∧ w9.cell? ⟨pb, 2, none⟩ = some (.int .i64 pt)) := ⟨t2, p0, p1, p2⟩
          have HKD : Hid (w9.drew.cell? ⟨tb, 2, none⟩ = some (.map (some fb)) ∧ w9.drew.cell? ⟨pb, 0, none⟩ = some (.string ps) ∧ w9.drew.cell? ⟨pb, 1, none⟩ = some (.int .i64 pf) ∧ w9.drew.cell? ⟨pb, 2, none⟩ = some (.int .i64 pt)) := ⟨t2, p0, p1, p2⟩
          have hP8 := HF8.out.drew0.blk HP9.out (HT9.out.nblk HP9.out (by decide))
          have HK8 : Hid (w8.cell? ⟨tb, 2, none⟩ = some (.map (some fb)) ∧ w8.cell? ⟨pb, 0, none⟩ = some (.string ps) ∧ w8.cell? ⟨pb, 1, none⟩ = some (.int .i64 pf) ∧ w8.cell? ⟨pb, 2, none⟩ = some (.int .i64 pt)) := ⟨HT8.out.blk.cell 2, hP8.cell 0, hP8.cell 1, hP8.cell 2⟩
          clear hP8
          have hrun2 : (Instr.mapUpdate fmT (.map (some fb)) (.agg #[.string ps, .int .i64 pf, .int .i64 pt]) (.int .i64 1)).run Try.prog w9.drew = .ok () w8 := hrun
          clear hL0 hT8 hf8 HRES2 HRES3 HUW HUF hrun
          go_wp2_with fail
          go_region_held3 (fun X : World => X.cell? ⟨tb, 2, none⟩ = some (.map (some fb)) ∧ X.cell? ⟨pb, 0, none⟩ = some (.string ps) ∧ X.cell? ⟨pb, 1, none⟩ = some (.int .i64 pf) ∧ X.cell? ⟨pb, 2, none⟩ = some (.int .i64 pt)) (first | with_reducible exact HK.out | with_reducible exact HKD.out | with_reducible exact HK8.out) (fail)
          go_wp2_with fail
          go_end0
          rw [HF.out.1, HF.out.2]
          exact ⟨rfl, HT8.out, ((Fr.of_below HB9.out : Fr (TBk tb cb (some wb) (some fb) true) w w9).drew).trans HF8.out (fun _ _ h => h)⟩
      · have HF := hide (HRES.out (.inr hF1))
        clear hW0 hF1 HRES HRES2 HRES3 hkL2
        refine wp_region_aft (by kernel_rfl) (by kernel_rfl) ?_
        repeat (go_big_quiet_step (fail))
        refine wpQuiet_nil ?_
        intro w9 hb9
        have HT9 := hide (HT3.out.below hb9)
        have HB9 := hide (HB3.out.trans (hb9.mono HB3.out.size))
        clear hb9 z0 z1 z2 z3 z4
        go_wp2_with fail
        go_end0
        rw [HF.out.1, HF.out.2]
        exact ⟨rfl, HT9.out, Fr.of_below HB9.out⟩

end Go.Proofs.Ytkobaidamdffmaa
