/- cells.Table: Begin, Drop, Get. (printed by gencell5.py) -/
import Derived.Test.YtkobaidamdffmaaCell4
namespace Go.Proofs.Ytkobaidamdffmaa
open Go.RowKit Go.Sort
set_option linter.unusedVariables false
set_option linter.unusedSimpArgs false

/-- the blocks of before do not matter -/
theorem TabS.stop {w : World} {base tb cb : Nat} {wm fm : Option Nat} {bg : Bool} {L W : List (PK × CV)} {F : List (PK × Int)} (h : TabS w base tb cb wm fm false L W F) (W' : List (PK × CV)) (F' : List (PK × Int)) : TabS w base tb cb wm fm false L W' F' :=
  ⟨h.blk, h.map, h.acc, h.bs, fun e => by cases e⟩
def BegP (w : World) (base tb cb : Nat) (wm fm : Option Nat) (bg : Bool) (L W : List (PK × CV)) (F : List (PK × Int)) (e : Ending) (w' : World) : Prop :=
  (bg = true ∧ e = .returned (.int .i64 171) ∧ w' = w) ∨ (bg = false ∧ e = .returned (.int .i64 0) ∧ ∃ wm' fm', TabS w' base tb cb wm' fm' true L [] [] ∧ Fr (fun j => j = tb) w w')
set_option maxHeartbeats 4000000 in
theorem cbegin_any (w : World) (base tb cb : Nat) (wm fm : Option Nat) (bg : Bool) (L W : List (PK × CV)) (F : List (PK × Int)) (h : TabS w base tb cb wm fm bg L W F) (hbase : base ≤ w.heap.size) :
    Calls Try.prog 20 #[.pointer (some ⟨tb, 0, none⟩)] w (BegP w base tb cb wm fm bg L W F) := by
  obtain ⟨t0, t1, t2, t3, htl⟩ := h.open
  have HT := hide h
  cases bg with
  | true =>
    clear h
    go_enter Try.func20, Try.ntmps20
    go_wp2_with fail
    go_ret
    exact .inl ⟨rfl, rfl, rfl⟩
  | false =>
    have hm1 : ∀ X : World, (Instr.makeMap cmT none).run Try.prog X = .ok (.map (some X.heap.size)) (X.alloc (.map #[] 0)) := fun X => rfl
    have hm2 : ∀ X : World, (Instr.makeMap fmT none).run Try.prog X = .ok (.map (some X.heap.size)) (X.alloc (.map #[] 0)) := fun X => rfl
    have y0 := h.blk.frozen 0
    have y1 := h.blk.frozen 1
    have y2 := h.blk.frozen 2
    have y3 := h.blk.frozen 3
    have HR : Hid (TabS ((((w.setCell ⟨tb, 3, none⟩ (.bool true)).setCell ⟨tb, 1, none⟩ (.map (some w.heap.size))).setCell ⟨tb, 2, none⟩ (.map (some (w.heap.size + 1)))).alloc (.map #[] 0) |>.alloc (.map #[] 0)) base tb cb (some w.heap.size) (some (w.heap.size + 1)) true L [] [] ∧
        Fr (fun j => j = tb) w ((((w.setCell ⟨tb, 3, none⟩ (.bool true)).setCell ⟨tb, 1, none⟩ (.map (some w.heap.size))).setCell ⟨tb, 2, none⟩ (.map (some (w.heap.size + 1)))).alloc (.map #[] 0) |>.alloc (.map #[] 0))) := by
      have hf0 : Fr (fun j => j = tb) w (((w.setCell ⟨tb, 3, none⟩ (.bool true)).setCell ⟨tb, 1, none⟩ (.map (some w.heap.size))).setCell ⟨tb, 2, none⟩ (.map (some (w.heap.size + 1)))) := (((Fr.refl (fun j => j = tb) w).put1 3 _).put1 1 _).put1 2 _
      have hB : Blk (((w.setCell ⟨tb, 3, none⟩ (.bool true)).setCell ⟨tb, 1, none⟩ (.map (some w.heap.size))).setCell ⟨tb, 2, none⟩ (.map (some (w.heap.size + 1)))) tb tabT #[.map (some cb), .map (some w.heap.size), .map (some (w.heap.size + 1)), .bool true] := by
        have h9 := ((h.blk.put 3 (.bool true)).put 1 (.map (some w.heap.size))).put 2 (.map (some (w.heap.size + 1)))
        simpa using h9
      have hsz : (((w.setCell ⟨tb, 3, none⟩ (.bool true)).setCell ⟨tb, 1, none⟩ (.map (some w.heap.size))).setCell ⟨tb, 2, none⟩ (.map (some (w.heap.size + 1)))).heap.size = w.heap.size := by simp [World.setCell]
      generalize (((w.setCell ⟨tb, 3, none⟩ (.bool true)).setCell ⟨tb, 1, none⟩ (.map (some w.heap.size))).setCell ⟨tb, 2, none⟩ (.map (some (w.heap.size + 1)))) = w5 at *
      have hf := (hf0.alloc (.map #[] 0)).alloc (.map #[] 0)
      have m1 : MapR ((w5.alloc (.map #[] 0)).alloc (.map #[] 0)) w.heap.size plV cvV [] := by
        have h9 : MapR ((w5.alloc (.map #[] 0)).alloc (.map #[] 0)) w5.heap.size plV cvV [] := (MapR.new w5 plV cvV).to (Below.heap_alloc _ _ _ (by simp))
        rw [hsz] at h9
        exact h9
      have m2 : MapR ((w5.alloc (.map #[] 0)).alloc (.map #[] 0)) (w.heap.size + 1) plV intV [] := by
        have h9 := MapR.new (w5.alloc (.map #[] 0)) plV intV
        rw [World.size_alloc, hsz] at h9
        exact h9
      have hbk : ∀ g cs, Blk w g bT cs → ¬ g = tb := fun g cs hc e => by rw [e] at hc; exact (hc.apart h.blk (by decide)) rfl
      have hcl := h.map.lt
      exact ⟨⟨(hB.alloc _).alloc _, h.map.fr hf (fun e => h.map.ne_blk h.blk e), fun p hp => (h.acc p hp).fr hf hbk, h.bs, fun _ => ⟨_, _, rfl, rfl, m1, m2, fun p hp => (by cases hp), fun p hp => (by cases hp), ⟨by omega, by omega⟩, ⟨by omega, by omega, by omega⟩⟩⟩, hf⟩
    clear h
    go_enter Try.func20, Try.ntmps20
    go_wp2_with fail
    go_ret
    exact .inr ⟨rfl, rfl, _, _, HR.out⟩

/-- what Drop leaves -/
def DropP (w : World) (base tb cb : Nat) (wm fm : Option Nat) (bg : Bool) (L W : List (PK × CV)) (F : List (PK × Int)) (kb : List Int) (f t : Int) (e : Ending) (w' : World) : Prop :=
  (¬ keyR kb.length f t ∧ e = .returned (.tuple #[.bool false, .int .i64 150]) ∧ Below w.heap.size w w') ∨
  (∃ p : PK, p.b = kb ∧ p.f = f ∧ p.t = t ∧ e = .returned (.tuple #[.bool (lk L p).isSome, .int .i64 0]) ∧ TabS w' base tb cb wm fm bg (delM L p) (if (lk L p).isSome then kpW bg L W F p else W) (if (lk L p).isSome then kpF bg L W F p else F) ∧ Fr (TBk tb cb wm fm bg) w w')
theorem lk_fk {L : List (PK × CV)} {p : PK} (h : lk L p = none) : delM L p = L := by
  refine del_none L p 0 ?_
  have h9 := fk_lk L p 0
  rw [h] at h9
  cases hf : fk L p 0 with
  | none => rfl
  | some x => rw [hf] at h9; cases h9

set_option maxRecDepth 100000 in
set_option maxHeartbeats 8000000 in
theorem cdrop_any (w : World) (base tb cb B kn kc : Nat) (wm fm : Option Nat) (bg : Bool) (L W : List (PK × CV)) (F : List (PK × Int)) (kA : Option Addr) (kb : List Int) (f t : Int) (h : TabS w base tb cb wm fm bg L W F)
    (hk : Sl w B (.slice kA kn kc) 1 kn (bys kb)) (hkn : kb.length = kn) (h8 : Bytes8 kb) (hB : B ≤ w.heap.size) :
    Calls Try.prog 15 #[.pointer (some ⟨tb, 0, none⟩), .agg #[.slice kA kn kc, .int .i64 f, .int .i64 t]] w (DropP w base tb cb wm fm bg L W F kb f t) := by
  have HT := hide h
  have HK := hide hk
  have HKN := hide hkn
  have H8 := hide h8
  have HB1 : Hid (Below w.heap.size w (w.alloc (.cells #[.slice kA kn kc, .int .i64 f, .int .i64 t] keyT))) := (Below.refl w.heap.size w).alloc (Nat.le_refl _) _
  have HKB : Hid (Blk (w.alloc (.cells #[.slice kA kn kc, .int .i64 f, .int .i64 t] keyT)) w.heap.size keyT #[.slice kA kn kc, .int .i64 f, .int .i64 t]) := Blk.new w _ _
  clear h hk hkn h8
  go_enter Try.func15, Try.ntmps15
  go_wp2_with fail
  generalize w.alloc (.cells #[.slice kA kn kc, .int .i64 f, .int .i64 t] keyT) = w1 at *
  obtain ⟨qb, hqb⟩ : ∃ qb, qb = w.heap.size := ⟨_, rfl⟩
  rw [← hqb] at HKB ⊢
  clear hqb
  refine (kright_any kA kn kc f t w1).mono ?_
  rintro e w2 ⟨rfl, hb2⟩
  have HB2 := hide (HB1.out.trans (hb2.mono HB1.out.size))
  have HKB2 := hide (HKB.out.below hb2 HKB.out.lt)
  clear hb2 HB1 HKB
  by_cases hkr : keyR kn f t
  · have HR := hide hkr
    rw [decide_eq_true hkr]
    clear hkr
    have p0 : w2.cell? ⟨qb, 0, none⟩ = some (.slice kA kn kc) := HKB2.out.cell 0
    have p1 : w2.cell? ⟨qb, 1, none⟩ = some (.int .i64 f) := HKB2.out.cell 1
    have p2 : w2.cell? ⟨qb, 2, none⟩ = some (.int .i64 t) := HKB2.out.cell 2
    have hpl := HKB2.out.lt
    obtain ⟨p, hpk⟩ : ∃ p : PK, p.b = kb ∧ p.f = f ∧ p.t = t := ⟨⟨kb, f, t, H8.out, by rw [HKN.out]; exact HR.out.1, HR.out.2⟩, rfl, rfl, rfl⟩
    have HP := hide hpk
    have hs : strOfNums kb = strOfNums p.b := by rw [hpk.1]
    go_wp2_with fail
    refine (at_any _ kb kn B f t w2 (HK.out.below (HB2.out.mono hB)) HKN.out (Nat.le_trans hB HB2.out.size)).mono ?_
    clear p0 p1 p2 hpl
    rintro e w4 ⟨rfl, hb4⟩
    rw [hs, ← hpk.2.1, ← hpk.2.2]
    clear hs hpk
    have HB4 := hide (HB2.out.trans (hb4.mono HB2.out.size))
    clear hb4 HB2 HKB2
    have HB5 : Hid (Below w.heap.size w (w4.alloc (.cells #[.string (strOfNums p.b), .int .i64 p.f, .int .i64 p.t] plT))) := HB4.out.alloc HB4.out.size _
    have HPB5 : Hid (Blk (w4.alloc (.cells #[.string (strOfNums p.b), .int .i64 p.f, .int .i64 p.t] plT)) w4.heap.size plT #[.string (strOfNums p.b), .int .i64 p.f, .int .i64 p.t]) := Blk.new w4 _ _
    go_upto_region 4 with fail
    generalize w4.alloc (.cells #[.string (strOfNums p.b), .int .i64 p.f, .int .i64 p.t] plT) = w5 at *
    obtain ⟨pb, hpb⟩ : ∃ pb, pb = w4.heap.size := ⟨_, rfl⟩
    rw [← hpb] at HPB5 ⊢
    clear hpb HB4
    have HT5 := hide (HT.out.below HB5.out)
    have HKP := hide (keep_any · base tb cb wm fm bg L W F p)
    have HPV : Hid (plV p = .agg #[.string (strOfNums p.b), .int .i64 p.f, .int .i64 p.t]) := rfl
    have HLL : Hid (∀ X : World, Below w5.heap.size w5 X → (Instr.lookup cmT (.map (some cb)) (plV p) true).run Try.prog X = .ok (.tuple #[cvV (gv (lk L p)), .bool (lk L p).isSome]) X) := fun X hX => by
      have h9 := (HT5.out.map.below hX HT5.out.map.lt).look plW cmU zeroCv p true (P := Try.prog)
      rw [gv_eq] at h9
      exact h9
    have HDEL : Hid (∀ (X : World) (W' : List (PK × CV)) (F' : List (PK × Int)), TabS X base tb cb wm fm bg L W' F' → ∃ w', (Builtin.delete_ #[cmT, plT] 0 #[.map (some cb), plV p]).run Try.prog X = .ok (.tuple #[]) w' ∧ TabS w' base tb cb wm fm bg (delM L p) W' F' ∧ Fr (TBk tb cb wm fm bg) X w') := fun X W' F' hX => by
      obtain ⟨w', hr, hm, hf, _⟩ := hX.map.del plW cmU p (P := Try.prog) (ty := 0)
      exact ⟨w', hr, hX.recell hf hm (fun q hq => hX.acc q (mem_del hq)), hf.mono (fun k _ e => .inr (.inl e))⟩
    obtain ⟨LA, Ln, Lc, hlv⟩ := gv_form HT5.out.acc p
    have hkL : ((lk L p).isSome = true) ∨ ((lk L p).isSome = false ∧ lk L p = none) := by
      cases lk L p with
      | none => exact .inr ⟨rfl, rfl⟩
      | some c => exact .inl rfl
    obtain ⟨L7, hL7⟩ : ∃ L7, L7 = gv (lk L p) := ⟨_, rfl⟩
    rw [← hL7] at HLL hlv
    obtain ⟨kL, hkl⟩ : ∃ kL, kL = (lk L p).isSome := ⟨_, rfl⟩
    rw [← hkl] at HLL hkL
    have HKL := hide hkl
    clear hL7 hkl
    obtain ⟨lv, lb, ls, ln, lg, lh, lp, lc⟩ := L7
    simp only at hlv
    subst hlv
    unfold cvV CV.cells at HLL
    simp only at HLL
    rw [HPV.out] at HLL HDEL
    generalize hps : strOfNums p.b = ps at *
    generalize hpf : p.f = pf at *
    generalize hpt : p.t = pt at *
    have HPE := hide (And.intro hps (And.intro hpf hpt))
    clear hps hpf hpt
    have HS : Hid (∀ X : World, Below w5.heap.size w5 X → (fun X : World => X.cell? ⟨tb, 0, none⟩ = some (.map (some cb)) ∧ X.cell? ⟨pb, 0, none⟩ = some (.string ps) ∧ X.cell? ⟨pb, 1, none⟩ = some (.int .i64 pf) ∧ X.cell? ⟨pb, 2, none⟩ = some (.int .i64 pt) ∧ (Instr.lookup cmT (.map (some cb)) (.agg #[.string ps, .int .i64 pf, .int .i64 pt]) true).run Try.prog X = .ok (.tuple #[.agg #[.slice LA Ln Lc, .int .i64 ls, .int .i64 ln, .int .i64 lg, .int .i64 lh, .bool lp, .bool lc], .bool kL]) X) X) := fun X hX => by
      have h1 := HT5.out.below hX
      have h2 := HPB5.out.below hX HPB5.out.lt
      exact ⟨h1.blk.cell 0, h2.cell 0, h2.cell 1, h2.cell 2, HLL.out X hX⟩
    have HD1 : Hid (∀ X : World, Below w5.heap.size w5 X → Below w5.heap.size w5 X.drew) := fun X hX => hX.drewN 1
    have HA1 : Hid (∀ (X : World) (o : Obj), Below w5.heap.size w5 X → Below w5.heap.size w5 (X.alloc o)) := fun X o hX => hX.alloc hX.size o
    have HR1 := hide (Below.refl w5.heap.size w5)
    have HSET : Hid (∀ (X : World) (nb : Nat) (a b c d e f g : Value), Below w5.heap.size w5 X → w5.heap.size ≤ nb → (fun X : World => X.cell? ⟨tb, 0, none⟩ = some (.map (some cb)) ∧ X.cell? ⟨pb, 0, none⟩ = some (.string ps) ∧ X.cell? ⟨pb, 1, none⟩ = some (.int .i64 pf) ∧ X.cell? ⟨pb, 2, none⟩ = some (.int .i64 pt) ∧ (Instr.lookup cmT (.map (some cb)) (.agg #[.string ps, .int .i64 pf, .int .i64 pt]) true).run Try.prog X = .ok (.tuple #[.agg #[.slice LA Ln Lc, .int .i64 ls, .int .i64 ln, .int .i64 lg, .int .i64 lh, .bool lp, .bool lc], .bool kL]) X) (World.drew (((((((X.setCell ⟨nb, 0, none⟩ a).setCell ⟨nb, 1, none⟩ b).setCell ⟨nb, 2, none⟩ c).setCell ⟨nb, 3, none⟩ d).setCell ⟨nb, 4, none⟩ e).setCell ⟨nb, 5, none⟩ f).setCell ⟨nb, 6, none⟩ g))) := fun X nb a b c d e f g hX hn => HS.out _ ((put7_below hX hn a b c d e f g).drewN 1)
    have HZ7 : Hid (∀ (X : World) (nb : Nat) (a b c d e f g : Value), X.heap.size = nb → Below w5.heap.size w5 X → Below w5.heap.size w5 ((((((((X.alloc (.cells #[.slice none 0 0, .int .i64 0, .int .i64 0, .int .i64 0, .int .i64 0, .bool false, .bool false] cvT)).setCell ⟨nb, 0, none⟩ a).setCell ⟨nb, 1, none⟩ b).setCell ⟨nb, 2, none⟩ c).setCell ⟨nb, 3, none⟩ d).setCell ⟨nb, 4, none⟩ e).setCell ⟨nb, 5, none⟩ f).setCell ⟨nb, 6, none⟩ g)) := fun X nb a b c d e f g hn hX => by
      subst hn
      exact put7_below (hX.alloc hX.size _) hX.size _ _ _ _ _ _ _
    go_cut [7, 8] from 14 to 22 (fun q7 q8 wx => q8 = .bool kL ∧ Hid (Below w5.heap.size w5 wx))
    case first =>
      obtain ⟨s0, s1, s2, s3, s4⟩ := HS.out w5 HR1.out
      go_region_held3 (fun X : World => X.cell? ⟨tb, 0, none⟩ = some (.map (some cb)) ∧ X.cell? ⟨pb, 0, none⟩ = some (.string ps) ∧ X.cell? ⟨pb, 1, none⟩ = some (.int .i64 pf) ∧ X.cell? ⟨pb, 2, none⟩ = some (.int .i64 pt) ∧ (Instr.lookup cmT (.map (some cb)) (.agg #[.string ps, .int .i64 pf, .int .i64 pt]) true).run Try.prog X = .ok (.tuple #[.agg #[.slice LA Ln Lc, .int .i64 ls, .int .i64 ln, .int .i64 lg, .int .i64 lh, .bool lp, .bool lc], .bool kL]) X) (first
        | with_reducible exact HS.out _ (HD1.out _ HR1.out)
        | with_reducible exact HS.out _ (HD1.out _ (HA1.out _ _ HR1.out))
        | with_reducible exact HS.out _ HR1.out
        | with_reducible exact HSET.out _ _ _ _ _ _ _ _ _ (HA1.out _ _ HR1.out) (Nat.le_refl _)) (fail)
      all_goals
        go_wp2_with fail
        go_meet
        case rel => first
          | exact ⟨rfl, HD1.out _ (HA1.out _ _ HR1.out)⟩
          | exact ⟨rfl, HD1.out _ (HZ7.out w5 w5.heap.size _ _ _ _ _ _ _ rfl HR1.out)⟩
    case rest =>
    obtain ⟨rfl, HBC⟩ := hcut
    have HT6 := hide (HT5.out.below HBC.out)
    have HPB6 := hide (HPB5.out.below HBC.out HPB5.out.lt)
    have HB6 := hide (HB5.out.trans (HBC.out.mono HB5.out.size))
    clear HBC HS HD1 HA1 HR1 HSET HZ7 HLL HT5 HPB5 HB5
    rcases hkL with rfl | ⟨rfl, hL0⟩
    · have p0 : wc.cell? ⟨pb, 0, none⟩ = some (.string ps) := HPB6.out.cell 0
      have p1 : wc.cell? ⟨pb, 1, none⟩ = some (.int .i64 pf) := HPB6.out.cell 1
      have p2 : wc.cell? ⟨pb, 2, none⟩ = some (.int .i64 pt) := HPB6.out.cell 2
      have hpl := HPB6.out.lt
      have hkeep := HKP.out wc HT6.out
      have HKE := hide hkeep
      clear hkeep
      go_wp2_with fail
      refine HKE.out.mono ?_
      clear HKE HKP p0 p1 p2 hpl
      rintro e w6 ⟨rfl, hT7, hf7⟩
      have HT7 := hide hT7
      have HF7 : Hid (Fr (TBk tb cb wm fm bg) w w6) := (Fr.of_below HB6.out : Fr (TBk tb cb wm fm bg) w wc).trans hf7 (fun _ _ h => h)
      have HPB7 := hide (hf7.blk HPB6.out (HT6.out.nblk HPB6.out (by decide)))
      clear hT7 hf7 HT6 HB6 HPB6
      obtain ⟨w8, hr, hT8, hf8⟩ := HDEL.out w6.drew _ _ (HT7.out.below ((Below.refl _ _).drewN 1))
      have HT8 := hide hT8
      have HF8 : Hid (Fr (TBk tb cb wm fm bg) w w8) := (HF7.out.drew).trans hf8 (fun _ _ e => e)
      have hP8 := hf8.drew0.blk HPB7.out (HT7.out.nblk HPB7.out (by decide))
      have t0 : w6.cell? ⟨tb, 0, none⟩ = some (.map (some cb)) := HT7.out.blk.cell 0
      have p0 : w6.cell? ⟨pb, 0, none⟩ = some (.string ps) := HPB7.out.cell 0
      have p1 : w6.cell? ⟨pb, 1, none⟩ = some (.int .i64 pf) := HPB7.out.cell 1
      have p2 : w6.cell? ⟨pb, 2, none⟩ = some (.int .i64 pt) := HPB7.out.cell 2
      have HS6 : Hid (w6.cell? ⟨tb, 0, none⟩ = some (.map (some cb)) ∧ w6.cell? ⟨pb, 0, none⟩ = some (.string ps) ∧ w6.cell? ⟨pb, 1, none⟩ = some (.int .i64 pf) ∧ w6.cell? ⟨pb, 2, none⟩ = some (.int .i64 pt)) := ⟨t0, p0, p1, p2⟩
      have HSD : Hid (w6.drew.cell? ⟨tb, 0, none⟩ = some (.map (some cb)) ∧ w6.drew.cell? ⟨pb, 0, none⟩ = some (.string ps) ∧ w6.drew.cell? ⟨pb, 1, none⟩ = some (.int .i64 pf) ∧ w6.drew.cell? ⟨pb, 2, none⟩ = some (.int .i64 pt)) := ⟨t0, p0, p1, p2⟩
      have HS8 : Hid (w8.cell? ⟨tb, 0, none⟩ = some (.map (some cb)) ∧ w8.cell? ⟨pb, 0, none⟩ = some (.string ps) ∧ w8.cell? ⟨pb, 1, none⟩ = some (.int .i64 pf) ∧ w8.cell? ⟨pb, 2, none⟩ = some (.int .i64 pt)) := ⟨HT8.out.blk.cell 0, hP8.cell 0, hP8.cell 1, hP8.cell 2⟩
      clear hT8 hf8 hP8 HDEL
      go_wp2_with fail
      go_region_held3 (fun X : World => X.cell? ⟨tb, 0, none⟩ = some (.map (some cb)) ∧ X.cell? ⟨pb, 0, none⟩ = some (.string ps) ∧ X.cell? ⟨pb, 1, none⟩ = some (.int .i64 pf) ∧ X.cell? ⟨pb, 2, none⟩ = some (.int .i64 pt)) (first | with_reducible exact HS6.out | with_reducible exact HSD.out | with_reducible exact HS8.out) (fail)
      go_wp2_with fail
      go_ret2
      refine .inr ⟨p, HP.out.1, HPE.out.2.1.trans HP.out.2.1, HPE.out.2.2.trans HP.out.2.2, ?_, ?_, HF8.out⟩
      · rw [← HKL.out]; rfl
      · rw [← HKL.out]; exact HT8.out
    · have HL0 := hide hL0
      clear hL0
      go_wp2_with fail
      go_ret2
      refine .inr ⟨p, HP.out.1, HPE.out.2.1.trans HP.out.2.1, HPE.out.2.2.trans HP.out.2.2, ?_, ?_, Fr.of_below HB6.out⟩
      · rw [← HKL.out]; rfl
      · rw [← HKL.out, lk_fk HL0.out]; exact HT6.out
  · have HR := hide hkr
    rw [decide_eq_false hkr]
    clear hkr
    go_wp2_with fail
    go_ret2
    exact .inl ⟨fun h9 => HR.out (by rw [← HKN.out]; exact h9), rfl, HB2.out⟩

end Go.Proofs.Ytkobaidamdffmaa
