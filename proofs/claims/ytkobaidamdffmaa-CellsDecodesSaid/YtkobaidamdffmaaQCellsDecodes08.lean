/- cells.Table: Put. / cells.Table: Begin, Drop, Get. (printed by gencell5.py) -/
import Derived.Test.YtkobaidamdffmaaQCellsDecodes07

namespace Go.Proofs.Ytkobaidamdffmaa
open Go.RowKit Go.Sort
set_option linter.unusedVariables false
set_option linter.unusedSimpArgs false

/-- what Put leaves -/
def PutP (w : World) (base tb cb : Nat) (wm fm : Option Nat) (bg : Bool) (L W : List (PK × CV)) (F : List (PK × Int)) (kb : List Int) (f t : Int) (d : CD) (e : Ending) (w' : World) : Prop :=
  (¬ (keyR kb.length f t ∧ d.right) ∧ e = .returned (.int .i64 150) ∧ Below w.heap.size w w') ∨
  (d.right ∧ e = .returned (.int .i64 0) ∧ ∃ p : PK, p.b = kb ∧ p.f = f ∧ p.t = t ∧ ∃ c' : CV, c'.d = d ∧ (∀ g, c'.v.ownBlock = some g → w.heap.size ≤ g) ∧ TabS w' base tb cb wm fm bg (putM L p c') (kpW bg L W F p) (kpF bg L W F p) ∧ Fr (TBk tb cb wm fm bg) w w')

set_option maxRecDepth 100000 in
set_option maxHeartbeats 8000000 in
theorem cput_any (w : World) (base tb cb B kn kc an ac : Nat) (wm fm : Option Nat) (bg : Bool) (L W : List (PK × CV)) (F : List (PK × Int)) (kA aA : Option Addr) (kb : List Int) (f t : Int) (d : CD) (h : TabS w base tb cb wm fm bg L W F)
    (hk : Sl w B (.slice kA kn kc) 1 kn (bys kb)) (hkn : kb.length = kn) (h8 : Bytes8 kb) (ha : ∀ X, Fr (TBk tb cb wm fm bg) w X → Sl X B (.slice aA an ac) 1 an (bys d.b)) (han : d.b.length = an) (ha8 : Bytes8 d.b) (hB : B ≤ w.heap.size) (hbase : base ≤ w.heap.size) :
    Calls Try.prog 10 #[.pointer (some ⟨tb, 0, none⟩), .agg #[.slice kA kn kc, .int .i64 f, .int .i64 t], .agg #[.slice aA an ac, .int .i64 d.s, .int .i64 d.n, .int .i64 d.g, .int .i64 d.h, .bool d.p, .bool d.c]] w (PutP w base tb cb wm fm bg L W F kb f t d) := by
  have HT := hide h
  have HK := hide hk
  have HKN := hide hkn
  have H8 := hide h8
  have HA := hide ha
  have HAN := hide han
  have HA8 := hide ha8
  have HKR := hide (fun X => kright_any kA kn kc f t X)
  have HCR := hide (fun X => cright_any (.slice aA an ac) aA an ac d X rfl han)
  unfold CV.cells at HCR
  simp only at HCR
  have HB1 : Hid (Below w.heap.size w ((w.alloc (.cells #[.slice kA kn kc, .int .i64 f, .int .i64 t] keyT)).alloc (.cells #[.slice aA an ac, .int .i64 d.s, .int .i64 d.n, .int .i64 d.g, .int .i64 d.h, .bool d.p, .bool d.c] cvT))) := ((Below.refl w.heap.size w).alloc (Nat.le_refl _) _).alloc (by simp) _
  have HKB : Hid (Blk ((w.alloc (.cells #[.slice kA kn kc, .int .i64 f, .int .i64 t] keyT)).alloc (.cells #[.slice aA an ac, .int .i64 d.s, .int .i64 d.n, .int .i64 d.g, .int .i64 d.h, .bool d.p, .bool d.c] cvT)) w.heap.size keyT #[.slice kA kn kc, .int .i64 f, .int .i64 t]) := (Blk.new w _ _).alloc _
  have HCB : Hid (Blk ((w.alloc (.cells #[.slice kA kn kc, .int .i64 f, .int .i64 t] keyT)).alloc (.cells #[.slice aA an ac, .int .i64 d.s, .int .i64 d.n, .int .i64 d.g, .int .i64 d.h, .bool d.p, .bool d.c] cvT)) (w.heap.size + 1) cvT #[.slice aA an ac, .int .i64 d.s, .int .i64 d.n, .int .i64 d.g, .int .i64 d.h, .bool d.p, .bool d.c]) := by
    have h9 := Blk.new (w.alloc (.cells #[.slice kA kn kc, .int .i64 f, .int .i64 t] keyT)) cvT #[.slice aA an ac, .int .i64 d.s, .int .i64 d.n, .int .i64 d.g, .int .i64 d.h, .bool d.p, .bool d.c]
    simpa [Hid] using h9
  clear h hk hkn h8 ha han ha8
  go_enter Try.func10, Try.ntmps10
  go_wp2_with fail
  generalize (w.alloc (.cells #[.slice kA kn kc, .int .i64 f, .int .i64 t] keyT)).alloc (.cells #[.slice aA an ac, .int .i64 d.s, .int .i64 d.n, .int .i64 d.g, .int .i64 d.h, .bool d.p, .bool d.c] cvT) = w1 at *
  obtain ⟨qb, hqb⟩ : ∃ qb, qb = w.heap.size := ⟨_, rfl⟩
  obtain ⟨rb, hrb⟩ : ∃ rb, rb = w.heap.size + 1 := ⟨_, rfl⟩
  have HNB : Hid (w.heap.size ≤ qb ∧ w.heap.size ≤ rb) := ⟨by omega, by omega⟩
  rw [← hrb] at HCB ⊢
  rw [← hqb] at HKB ⊢
  clear hqb hrb
  refine (HKR.out w1).mono ?_
  clear HKR
  rintro e w2 ⟨rfl, hb2⟩
  have HB2 := hide (HB1.out.trans (hb2.mono HB1.out.size))
  have HKB2 := hide (HKB.out.below hb2 HKB.out.lt)
  have HCB2 := hide (HCB.out.below hb2 HCB.out.lt)
  clear hb2 HB1 HKB HCB
  have q0 : w2.cell? ⟨rb, 0, none⟩ = some (.slice aA an ac) := HCB2.out.cell 0
  have q1 : w2.cell? ⟨rb, 1, none⟩ = some (.int .i64 d.s) := HCB2.out.cell 1
  have q2 : w2.cell? ⟨rb, 2, none⟩ = some (.int .i64 d.n) := HCB2.out.cell 2
  have q3 : w2.cell? ⟨rb, 3, none⟩ = some (.int .i64 d.g) := HCB2.out.cell 3
  have q4 : w2.cell? ⟨rb, 4, none⟩ = some (.int .i64 d.h) := HCB2.out.cell 4
  have q5 : w2.cell? ⟨rb, 5, none⟩ = some (.bool d.p) := HCB2.out.cell 5
  have q6 : w2.cell? ⟨rb, 6, none⟩ = some (.bool d.c) := HCB2.out.cell 6
  have hql := HCB2.out.lt
  by_cases hkr : keyR kn f t
  · have HR := hide hkr
    rw [decide_eq_true hkr]
    clear hkr
    go_wp2_with fail
    refine (HCR.out w2).mono ?_
    clear HCR q0 q1 q2 q3 q4 q5 q6 hql
    rintro e w3 ⟨rfl, hb3⟩
    have HB3 := hide (HB2.out.trans (hb3.mono HB2.out.size))
    have HKB3 := hide (HKB2.out.below hb3 HKB2.out.lt)
    have HCB3 := hide (HCB2.out.below hb3 HCB2.out.lt)
    clear hb3 HB2 HKB2 HCB2
    by_cases hcr : d.right
    · have HC := hide hcr
      rw [decide_eq_true hcr]
      clear hcr
      have p0 : w3.cell? ⟨qb, 0, none⟩ = some (.slice kA kn kc) := HKB3.out.cell 0
      have p1 : w3.cell? ⟨qb, 1, none⟩ = some (.int .i64 f) := HKB3.out.cell 1
      have p2 : w3.cell? ⟨qb, 2, none⟩ = some (.int .i64 t) := HKB3.out.cell 2
      have hpl := HKB3.out.lt
      obtain ⟨p, hpk⟩ : ∃ p : PK, p.b = kb ∧ p.f = f ∧ p.t = t := ⟨⟨kb, f, t, H8.out, by rw [HKN.out]; exact HR.out.1, HR.out.2⟩, rfl, rfl, rfl⟩
      have HP := hide hpk
      have hs : strOfNums kb = strOfNums p.b := by rw [hpk.1]
      go_wp2_with fail
      refine (at_any _ kb kn B f t w3 (HK.out.below (HB3.out.mono hB)) HKN.out (Nat.le_trans hB HB3.out.size)).mono ?_
      clear p0 p1 p2 hpl
      rintro e w4 ⟨rfl, hb4⟩
      rw [hs, ← hpk.2.1, ← hpk.2.2]
      clear hs hpk
      have HB4 := hide (HB3.out.trans (hb4.mono HB3.out.size))
      have HCB4 := hide (HCB3.out.below hb4 HCB3.out.lt)
      clear hb4 HB3 HKB3 HCB3
      have HB5 : Hid (Below w.heap.size w (w4.alloc (.cells #[.string (strOfNums p.b), .int .i64 p.f, .int .i64 p.t] plT))) := HB4.out.alloc HB4.out.size _
      have HPB5 : Hid (Blk (w4.alloc (.cells #[.string (strOfNums p.b), .int .i64 p.f, .int .i64 p.t] plT)) w4.heap.size plT #[.string (strOfNums p.b), .int .i64 p.f, .int .i64 p.t]) := Blk.new w4 _ _
      have HCB5 := hide (HCB4.out.alloc (.cells #[.string (strOfNums p.b), .int .i64 p.f, .int .i64 p.t] plT))
      go_wp2_with fail
      generalize w4.alloc (.cells #[.string (strOfNums p.b), .int .i64 p.f, .int .i64 p.t] plT) = w5 at *
      obtain ⟨pb, hpb⟩ : ∃ pb, pb = w4.heap.size := ⟨_, rfl⟩
      rw [← hpb] at HPB5 ⊢
      clear hpb
      have HT5 := hide (HT.out.below HB5.out)
      refine (keep_any w5 base tb cb wm fm bg L W F p HT5.out).mono ?_
      rintro e w6 ⟨rfl, hT6, hf6⟩
      have HT6 := hide hT6
      have HF6 : Hid (Fr (TBk tb cb wm fm bg) w w6) := (Fr.of_below HB5.out : Fr (TBk tb cb wm fm bg) w w5).trans hf6 (fun _ _ h => h)
      have HPB6 := hide (hf6.blk HPB5.out (HT5.out.nblk HPB5.out (by decide)))
      have HCB6 := hide (hf6.blk HCB5.out (HT5.out.nblk HCB5.out (by decide)))
      clear hT6 hf6 HB4 HCB4 HT5 HPB5 HCB5
      have q0 : w6.cell? ⟨rb, 0, none⟩ = some (.slice aA an ac) := HCB6.out.cell 0
      have hql := HCB6.out.lt
      have hz6 := HF6.out.size
      have hacn : an ≤ 140737488355328 := by have h9 := HC.out.1; rw [HAN.out] at h9; omega
      go_wp2_with fail
      refine (bclone_any _ d.b an B w6 (HA.out w6 HF6.out) HAN.out hacn (Nat.le_trans hB hz6)).mono ?_
      clear q0 hql
      rintro e w7 ⟨u, rfl, ho7, hb7⟩
      obtain ⟨uA, uc, rfl, huc⟩ := ho7.sl.form
      have HT7 := hide (HT6.out.below hb7)
      have HF7 : Hid (Fr (TBk tb cb wm fm bg) w w7) := HF6.out.trans (Fr.of_below hb7 : Fr nob w6 w7) (fun _ _ h => h.elim)
      have HPB7 := hide (HPB6.out.below hb7 HPB6.out.lt)
      have HCB7 := hide (HCB6.out.below hb7 HCB6.out.lt)
      have HO7 := hide (ho7.lower (Nat.le_trans hbase hz6))
      have HFH : Hid (∀ g, (Value.slice uA an uc).ownBlock = some g → w.heap.size ≤ g) := fun g hg => Nat.le_trans hz6 (ho7.lt g hg).1
      clear ho7 hb7 HT6 HF6 HPB6 HCB6
      have HCN : Hid ((Value.slice uA an uc).ownBlock ≠ some rb) := HO7.out.ne HCB7.out (by decide)
      have HW8 : Hid (TabS (w7.setCell ⟨rb, 0, none⟩ (.slice uA an uc)) base tb cb wm fm bg L (kpW bg L W F p) (kpF bg L W F p) ∧ Fr (TBk tb cb wm fm bg) w (w7.setCell ⟨rb, 0, none⟩ (.slice uA an uc)) ∧ Blk (w7.setCell ⟨rb, 0, none⟩ (.slice uA an uc)) pb plT #[.string (strOfNums p.b), .int .i64 p.f, .int .i64 p.t] ∧
          Blk (w7.setCell ⟨rb, 0, none⟩ (.slice uA an uc)) rb cvT #[.slice uA an uc, .int .i64 d.s, .int .i64 d.n, .int .i64 d.g, .int .i64 d.h, .bool d.p, .bool d.c] ∧ Own (w7.setCell ⟨rb, 0, none⟩ (.slice uA an uc)) base bT 1 (.slice uA an uc) an (bys d.b)) := by
        have hfr : Fr (fun j => j = rb) w7 (w7.setCell ⟨rb, 0, none⟩ (.slice uA an uc)) := (Fr.refl _ w7).put1 0 _
        refine ⟨HT7.out.fr hfr (fun j hj e => by rw [e] at hj; exact HT7.out.nblk HCB7.out (by decide) hj) (fun g cs hc e => by rw [e] at hc; exact (hc.apart HCB7.out (by decide)) rfl), HF7.out.put (.inr HNB.out.2) _, HPB7.out.far (p := ⟨rb, 0, none⟩) (HPB7.out.apart HCB7.out (by decide)) _, HCB7.out.put 0 _, HO7.out.put (p := ⟨rb, 0, none⟩) HCN.out _⟩
      have y0 := HCB7.out.frozen 0
      have hql := HCB7.out.lt
      have q0 : w7.cell? ⟨rb, 0, none⟩ = some (.slice aA an ac) := HCB7.out.cell 0
      go_upto_region 6 with fail
      generalize w7.setCell ⟨rb, 0, none⟩ (.slice uA an uc) = w8 at *
      clear HT7 HF7 HPB7 HCB7 HO7 q0 y0 hql HCN
      have t0 : w8.cell? ⟨tb, 0, none⟩ = some (.map (some cb)) := HW8.out.1.blk.cell 0
      have p0 : w8.cell? ⟨pb, 0, none⟩ = some (.string (strOfNums p.b)) := HW8.out.2.2.1.cell 0
      have p1 : w8.cell? ⟨pb, 1, none⟩ = some (.int .i64 p.f) := HW8.out.2.2.1.cell 1
      have p2 : w8.cell? ⟨pb, 2, none⟩ = some (.int .i64 p.t) := HW8.out.2.2.1.cell 2
      have q0 : w8.cell? ⟨rb, 0, none⟩ = some (.slice uA an uc) := HW8.out.2.2.2.1.cell 0
      have q1 : w8.cell? ⟨rb, 1, none⟩ = some (.int .i64 d.s) := HW8.out.2.2.2.1.cell 1
      have q2 : w8.cell? ⟨rb, 2, none⟩ = some (.int .i64 d.n) := HW8.out.2.2.2.1.cell 2
      have q3 : w8.cell? ⟨rb, 3, none⟩ = some (.int .i64 d.g) := HW8.out.2.2.2.1.cell 3
      have q4 : w8.cell? ⟨rb, 4, none⟩ = some (.int .i64 d.h) := HW8.out.2.2.2.1.cell 4
      have q5 : w8.cell? ⟨rb, 5, none⟩ = some (.bool d.p) := HW8.out.2.2.2.1.cell 5
      have q6 : w8.cell? ⟨rb, 6, none⟩ = some (.bool d.c) := HW8.out.2.2.2.1.cell 6
      have hacc : AccO w8.drew base ⟨.slice uA an uc, d⟩ := ⟨by have h9 := HW8.out.2.2.2.2; rw [← HAN.out] at h9 ⊢; exact h9, HA8.out, HC.out⟩
      have hTD : TabS w8.drew base tb cb wm fm bg L (kpW bg L W F p) (kpF bg L W F p) := HW8.out.1.below ((Below.refl _ _).drewN 1)
      obtain ⟨w9, hr, hm, hf, _⟩ := hTD.map.upd plW cmU p ⟨.slice uA an uc, d⟩ (P := Try.prog)
      have HT9 : Hid (TabS w9 base tb cb wm fm bg (putM L p ⟨.slice uA an uc, d⟩) (kpW bg L W F p) (kpF bg L W F p)) := hTD.recell hf hm (fun q hq => by
        rcases mem_put hq with h9 | h9
        · exact hTD.acc q h9
        · rw [h9]; exact hacc)
      have HF9 : Hid (Fr (TBk tb cb wm fm bg) w w9) := (HW8.out.2.1.drew).trans hf (fun k _ e => .inr (.inl e))
      have hfb : Fr (TBk tb cb wm fm bg) w8 w9 := (Fr.mono (T := TBk tb cb wm fm bg) hf (fun k _ e => .inr (.inl e))).drew0
      have hP9 := hfb.blk HW8.out.2.2.1 (HW8.out.1.nblk HW8.out.2.2.1 (by decide))
      have hQ9 := hfb.blk HW8.out.2.2.2.1 (HW8.out.1.nblk HW8.out.2.2.2.1 (by decide))
      have HS8 : Hid (w8.cell? ⟨tb, 0, none⟩ = some (.map (some cb)) ∧ w8.cell? ⟨pb, 0, none⟩ = some (.string (strOfNums p.b)) ∧ w8.cell? ⟨pb, 1, none⟩ = some (.int .i64 p.f) ∧ w8.cell? ⟨pb, 2, none⟩ = some (.int .i64 p.t) ∧ w8.cell? ⟨rb, 0, none⟩ = some (.slice uA an uc) ∧ w8.cell? ⟨rb, 1, none⟩ = some (.int .i64 d.s) ∧ w8.cell? ⟨rb, 2, none⟩ = some (.int .i64 d.n) ∧ w8.cell? ⟨rb, 3, none⟩ = some (.int .i64 d.g) ∧ w8.cell? ⟨rb, 4, none⟩ = some (.int .i64 d.h) ∧ w8.cell? ⟨rb, 5, none⟩ = some (.bool d.p) ∧ w8.cell? ⟨rb, 6, none⟩ = some (.bool d.c)) := ⟨t0, p0, p1, p2, q0, q1, q2, q3, q4, q5, q6⟩
      have HSD : Hid (w8.drew.cell? ⟨tb, 0, none⟩ = some (.map (some cb)) ∧ w8.drew.cell? ⟨pb, 0, none⟩ = some (.string (strOfNums p.b)) ∧ w8.drew.cell? ⟨pb, 1, none⟩ = some (.int .i64 p.f) ∧ w8.drew.cell? ⟨pb, 2, none⟩ = some (.int .i64 p.t) ∧ w8.drew.cell? ⟨rb, 0, none⟩ = some (.slice uA an uc) ∧ w8.drew.cell? ⟨rb, 1, none⟩ = some (.int .i64 d.s) ∧ w8.drew.cell? ⟨rb, 2, none⟩ = some (.int .i64 d.n) ∧ w8.drew.cell? ⟨rb, 3, none⟩ = some (.int .i64 d.g) ∧ w8.drew.cell? ⟨rb, 4, none⟩ = some (.int .i64 d.h) ∧ w8.drew.cell? ⟨rb, 5, none⟩ = some (.bool d.p) ∧ w8.drew.cell? ⟨rb, 6, none⟩ = some (.bool d.c)) := ⟨t0, p0, p1, p2, q0, q1, q2, q3, q4, q5, q6⟩
      have HS9 : Hid (w9.cell? ⟨tb, 0, none⟩ = some (.map (some cb)) ∧ w9.cell? ⟨pb, 0, none⟩ = some (.string (strOfNums p.b)) ∧ w9.cell? ⟨pb, 1, none⟩ = some (.int .i64 p.f) ∧ w9.cell? ⟨pb, 2, none⟩ = some (.int .i64 p.t) ∧ w9.cell? ⟨rb, 0, none⟩ = some (.slice uA an uc) ∧ w9.cell? ⟨rb, 1, none⟩ = some (.int .i64 d.s) ∧ w9.cell? ⟨rb, 2, none⟩ = some (.int .i64 d.n) ∧ w9.cell? ⟨rb, 3, none⟩ = some (.int .i64 d.g) ∧ w9.cell? ⟨rb, 4, none⟩ = some (.int .i64 d.h) ∧ w9.cell? ⟨rb, 5, none⟩ = some (.bool d.p) ∧ w9.cell? ⟨rb, 6, none⟩ = some (.bool d.c)) := ⟨HT9.out.blk.cell 0, hP9.cell 0, hP9.cell 1, hP9.cell 2, hQ9.cell 0, hQ9.cell 1, hQ9.cell 2, hQ9.cell 3, hQ9.cell 4, hQ9.cell 5, hQ9.cell 6⟩
      have hrun : (Instr.mapUpdate cmT (.map (some cb)) (.agg #[.string (strOfNums p.b), .int .i64 p.f, .int .i64 p.t]) (.agg #[.slice uA an uc, .int .i64 d.s, .int .i64 d.n, .int .i64 d.g, .int .i64 d.h, .bool d.p, .bool d.c])).run Try.prog w8.drew = .ok () w9 := hr
      clear hacc hTD hr hm hf hfb hP9 hQ9
      go_region_held3 (fun X : World => X.cell? ⟨tb, 0, none⟩ = some (.map (some cb)) ∧ X.cell? ⟨pb, 0, none⟩ = some (.string (strOfNums p.b)) ∧ X.cell? ⟨pb, 1, none⟩ = some (.int .i64 p.f) ∧ X.cell? ⟨pb, 2, none⟩ = some (.int .i64 p.t) ∧ X.cell? ⟨rb, 0, none⟩ = some (.slice uA an uc) ∧ X.cell? ⟨rb, 1, none⟩ = some (.int .i64 d.s) ∧ X.cell? ⟨rb, 2, none⟩ = some (.int .i64 d.n) ∧ X.cell? ⟨rb, 3, none⟩ = some (.int .i64 d.g) ∧ X.cell? ⟨rb, 4, none⟩ = some (.int .i64 d.h) ∧ X.cell? ⟨rb, 5, none⟩ = some (.bool d.p) ∧ X.cell? ⟨rb, 6, none⟩ = some (.bool d.c)) (first | with_reducible exact HS8.out | with_reducible exact HSD.out | with_reducible exact HS9.out) (fail)
      go_wp2_with fail
      go_ret
      exact .inr ⟨HC.out, rfl, p, HP.out.1, HP.out.2.1, HP.out.2.2, ⟨.slice uA an uc, d⟩, rfl, HFH.out, HT9.out, HF9.out⟩
    · have HC := hide hcr
      rw [decide_eq_false hcr]
      clear hcr
      go_wp2_with fail
      go_ret
      exact .inl ⟨fun h9 => HC.out h9.2, rfl, HB3.out⟩
  · have HR := hide hkr
    rw [decide_eq_false hkr]
    clear hkr
    go_wp2_with fail
    go_ret
    exact .inl ⟨fun h9 => HR.out (by rw [← HKN.out]; exact h9.1), rfl, HB2.out⟩

end Go.Proofs.Ytkobaidamdffmaa

namespace Go.Proofs.Ytkobaidamdffmaa
open Go.RowKit Go.Sort
set_option linter.unusedVariables false
set_option linter.unusedSimpArgs false

/-- the blocks of before do not matter -/
theorem TabS.stop {w : World} {base tb cb : Nat} {wm fm : Option Nat} {bg : Bool} {L W : List (PK × CV)} {F : List (PK × Int)} (h : TabS w base tb cb wm fm false L W F) (W' : List (PK × CV)) (F' : List (PK × Int)) : TabS w base tb cb wm fm false L W' F' :=
  ⟨h.blk, h.map, h.acc, h.bs, fun e => by cases e⟩
def BegP (w : World) (base tb cb : Nat) (wm fm : Option Nat) (bg : Bool) (L W : List (PK × CV)) (F : List (PK × Int)) (e : Ending) (w' : World) : Prop :=
  (bg = true ∧ e = .returned (.int .i64 171) ∧ w' = w) ∨ (bg = false ∧ e = .returned (.int .i64 0) ∧ ∃ wm' fm', TabS w' base tb cb wm' fm' true L [] [] ∧ Fr (fun j => j = tb) w w')
set_option maxHeartbeats 4000000 in
theorem cbegin_any (w : World) (base tb cb : Nat) (wm fm : Option Nat) (bg : Bool) (L W : List (PK × CV)) (F : List (PK × Int)) (h : TabS w base tb cb wm fm bg L W F) (hbase : base ≤ w.heap.size) :
    Calls Try.prog 20 #[.pointer (some ⟨tb, 0, none⟩)] w (BegP w base tb cb wm fm bg L W F) := by
  obtain ⟨t0, t1, t2, t3, htl⟩ := h.open
  have HT := hide h
  cases bg with
  | true =>
    clear h
    go_enter Try.func20, Try.ntmps20
    go_wp2_with fail
    go_ret
    exact .inl ⟨rfl, rfl, rfl⟩
  | false =>
    have hm1 : ∀ X : World, (Instr.makeMap cmT none).run Try.prog X = .ok (.map (some X.heap.size)) (X.alloc (.map #[] 0)) := fun X => rfl
    have hm2 : ∀ X : World, (Instr.makeMap fmT none).run Try.prog X = .ok (.map (some X.heap.size)) (X.alloc (.map #[] 0)) := fun X => rfl
    have y0 := h.blk.frozen 0
    have y1 := h.blk.frozen 1
    have y2 := h.blk.frozen 2
    have y3 := h.blk.frozen 3
    have HR : Hid (TabS ((((w.setCell ⟨tb, 3, none⟩ (.bool true)).setCell ⟨tb, 1, none⟩ (.map (some w.heap.size))).setCell ⟨tb, 2, none⟩ (.map (some (w.heap.size + 1)))).alloc (.map #[] 0) |>.alloc (.map #[] 0)) base tb cb (some w.heap.size) (some (w.heap.size + 1)) true L [] [] ∧
        Fr (fun j => j = tb) w ((((w.setCell ⟨tb, 3, none⟩ (.bool true)).setCell ⟨tb, 1, none⟩ (.map (some w.heap.size))).setCell ⟨tb, 2, none⟩ (.map (some (w.heap.size + 1)))).alloc (.map #[] 0) |>.alloc (.map #[] 0))) := by
      have hf0 : Fr (fun j => j = tb) w (((w.setCell ⟨tb, 3, none⟩ (.bool true)).setCell ⟨tb, 1, none⟩ (.map (some w.heap.size))).setCell ⟨tb, 2, none⟩ (.map (some (w.heap.size + 1)))) := (((Fr.refl (fun j => j = tb) w).put1 3 _).put1 1 _).put1 2 _
      have hB : Blk (((w.setCell ⟨tb, 3, none⟩ (.bool true)).setCell ⟨tb, 1, none⟩ (.map (some w.heap.size))).setCell ⟨tb, 2, none⟩ (.map (some (w.heap.size + 1)))) tb tabT #[.map (some cb), .map (some w.heap.size), .map (some (w.heap.size + 1)), .bool true] := by
        have h9 := ((h.blk.put 3 (.bool true)).put 1 (.map (some w.heap.size))).put 2 (.map (some (w.heap.size + 1)))
        simpa using h9
      have hsz : (((w.setCell ⟨tb, 3, none⟩ (.bool true)).setCell ⟨tb, 1, none⟩ (.map (some w.heap.size))).setCell ⟨tb, 2, none⟩ (.map (some (w.heap.size + 1)))).heap.size = w.heap.size := by simp [World.setCell]
      generalize (((w.setCell ⟨tb, 3, none⟩ (.bool true)).setCell ⟨tb, 1, none⟩ (.map (some w.heap.size))).setCell ⟨tb, 2, none⟩ (.map (some (w.heap.size + 1)))) = w5 at *
      have hf := (hf0.alloc (.map #[] 0)).alloc (.map #[] 0)
      have m1 : MapR ((w5.alloc (.map #[] 0)).alloc (.map #[] 0)) w.heap.size plV cvV [] := by
        have h9 : MapR ((w5.alloc (.map #[] 0)).alloc (.map #[] 0)) w5.heap.size plV cvV [] := (MapR.new w5 plV cvV).to (Below.heap_alloc _ _ _ (by simp))
        rw [hsz] at h9
        exact h9
      have m2 : MapR ((w5.alloc (.map #[] 0)).alloc (.map #[] 0)) (w.heap.size + 1) plV intV [] := by
        have h9 := MapR.new (w5.alloc (.map #[] 0)) plV intV
        rw [World.size_alloc, hsz] at h9
        exact h9
      have hbk : ∀ g cs, Blk w g bT cs → ¬ g = tb := fun g cs hc e => by rw [e] at hc; exact (hc.apart h.blk (by decide)) rfl
      have hcl := h.map.lt
      exact ⟨⟨(hB.alloc _).alloc _, h.map.fr hf (fun e => h.map.ne_blk h.blk e), fun p hp => (h.acc p hp).fr hf hbk, h.bs, fun _ => ⟨_, _, rfl, rfl, m1, m2, fun p hp => (by cases hp), fun p hp => (by cases hp), ⟨by omega, by omega⟩, ⟨by omega, by omega, by omega⟩⟩⟩, hf⟩
    clear h
    go_enter Try.func20, Try.ntmps20
    go_wp2_with fail
    go_ret
    exact .inr ⟨rfl, rfl, _, _, HR.out⟩

/-- what Drop leaves -/
def DropP (w : World) (base tb cb : Nat) (wm fm : Option Nat) (bg : Bool) (L W : List (PK × CV)) (F : List (PK × Int)) (kb : List Int) (f t : Int) (e : Ending) (w' : World) : Prop :=
  (¬ keyR kb.length f t ∧ e = .returned (.tuple #[.bool false, .int .i64 150]) ∧ Below w.heap.size w w') ∨
  (∃ p : PK, p.b = kb ∧ p.f = f ∧ p.t = t ∧ e = .returned (.tuple #[.bool (lk L p).isSome, .int .i64 0]) ∧ TabS w' base tb cb wm fm bg (delM L p) (if (lk L p).isSome then kpW bg L W F p else W) (if (lk L p).isSome then kpF bg L W F p else F) ∧ Fr (TBk tb cb wm fm bg) w w')
theorem lk_fk {L : List (PK × CV)} {p : PK} (h : lk L p = none) : delM L p = L := by
  refine del_none L p 0 ?_
  have h9 := fk_lk L p 0
  rw [h] at h9
  cases hf : fk L p 0 with
  | none => rfl
  | some x => rw [hf] at h9; cases h9

set_option maxRecDepth 100000 in
set_option maxHeartbeats 8000000 in
theorem cdrop_any (w : World) (base tb cb B kn kc : Nat) (wm fm : Option Nat) (bg : Bool) (L W : List (PK × CV)) (F : List (PK × Int)) (kA : Option Addr) (kb : List Int) (f t : Int) (h : TabS w base tb cb wm fm bg L W F)
    (hk : Sl w B (.slice kA kn kc) 1 kn (bys kb)) (hkn : kb.length = kn) (h8 : Bytes8 kb) (hB : B ≤ w.heap.size) :
    Calls Try.prog 15 #[.pointer (some ⟨tb, 0, none⟩), .agg #[.slice kA kn kc, .int .i64 f, .int .i64 t]] w (DropP w base tb cb wm fm bg L W F kb f t) := by
  have HT := hide h
  have HK := hide hk
  have HKN := hide hkn
  have H8 := hide h8
  have HB1 : Hid (Below w.heap.size w (w.alloc (.cells #[.slice kA kn kc, .int .i64 f, .int .i64 t] keyT))) := (Below.refl w.heap.size w).alloc (Nat.le_refl _) _
  have HKB : Hid (Blk (w.alloc (.cells #[.slice kA kn kc, .int .i64 f, .int .i64 t] keyT)) w.heap.size keyT #[.slice kA kn kc, .int .i64 f, .int .i64 t]) := Blk.new w _ _
  clear h hk hkn h8
  go_enter Try.func15, Try.ntmps15
  go_wp2_with fail
  generalize w.alloc (.cells #[.slice kA kn kc, .int .i64 f, .int .i64 t] keyT) = w1 at *
  obtain ⟨qb, hqb⟩ : ∃ qb, qb = w.heap.size := ⟨_, rfl⟩
  rw [← hqb] at HKB ⊢
  clear hqb
  refine (kright_any kA kn kc f t w1).mono ?_
  rintro e w2 ⟨rfl, hb2⟩
  have HB2 := hide (HB1.out.trans (hb2.mono HB1.out.size))
  have HKB2 := hide (HKB.out.below hb2 HKB.out.lt)
  clear hb2 HB1 HKB
  by_cases hkr : keyR kn f t
  · have HR := hide hkr
    rw [decide_eq_true hkr]
    clear hkr
    have p0 : w2.cell? ⟨qb, 0, none⟩ = some (.slice kA kn kc) := HKB2.out.cell 0
    have p1 : w2.cell? ⟨qb, 1, none⟩ = some (.int .i64 f) := HKB2.out.cell 1
    have p2 : w2.cell? ⟨qb, 2, none⟩ = some (.int .i64 t) := HKB2.out.cell 2
    have hpl := HKB2.out.lt
    obtain ⟨p, hpk⟩ : ∃ p : PK, p.b = kb ∧ p.f = f ∧ p.t = t := ⟨⟨kb, f, t, H8.out, by rw [HKN.out]; exact HR.out.1, HR.out.2⟩, rfl, rfl, rfl⟩
    have HP := hide hpk
    have hs : strOfNums kb = strOfNums p.b := by rw [hpk.1]
    go_wp2_with fail
    refine (at_any _ kb kn B f t w2 (HK.out.below (HB2.out.mono hB)) HKN.out (Nat.le_trans hB HB2.out.size)).mono ?_
    clear p0 p1 p2 hpl
    rintro e w4 ⟨rfl, hb4⟩
    rw [hs, ← hpk.2.1, ← hpk.2.2]
    clear hs hpk
    have HB4 := hide (HB2.out.trans (hb4.mono HB2.out.size))
    clear hb4 HB2 HKB2
    have HB5 : Hid (Below w.heap.size w (w4.alloc (.cells #[.string (strOfNums p.b), .int .i64 p.f, .int .i64 p.t] plT))) := HB4.out.alloc HB4.out.size _
    have HPB5 : Hid (Blk (w4.alloc (.cells #[.string (strOfNums p.b), .int .i64 p.f, .int .i64 p.t] plT)) w4.heap.size plT #[.string (strOfNums p.b), .int .i64 p.f, .int .i64 p.t]) := Blk.new w4 _ _
    go_upto_region 4 with fail
    generalize w4.alloc (.cells #[.string (strOfNums p.b), .int .i64 p.f, .int .i64 p.t] plT) = w5 at *
    obtain ⟨pb, hpb⟩ : ∃ pb, pb = w4.heap.size := ⟨_, rfl⟩
    rw [← hpb] at HPB5 ⊢
    clear hpb HB4
    have HT5 := hide (HT.out.below HB5.out)
    have HKP := hide (keep_any · base tb cb wm fm bg L W F p)
    have HPV : Hid (plV p = .agg #[.string (strOfNums p.b), .int .i64 p.f, .int .i64 p.t]) := rfl
    have HLL : Hid (∀ X : World, Below w5.heap.size w5 X → (Instr.lookup cmT (.map (some cb)) (plV p) true).run Try.prog X = .ok (.tuple #[cvV (gv (lk L p)), .bool (lk L p).isSome]) X) := fun X hX => by
      have h9 := (HT5.out.map.below hX HT5.out.map.lt).look plW cmU zeroCv p true (P := Try.prog)
      rw [gv_eq] at h9
      exact h9
    have HDEL : Hid (∀ (X : World) (W' : List (PK × CV)) (F' : List (PK × Int)), TabS X base tb cb wm fm bg L W' F' → ∃ w', (Builtin.delete_ #[cmT, plT] 0 #[.map (some cb), plV p]).run Try.prog X = .ok (.tuple #[]) w' ∧ TabS w' base tb cb wm fm bg (delM L p) W' F' ∧ Fr (TBk tb cb wm fm bg) X w') := fun X W' F' hX => by
      obtain ⟨w', hr, hm, hf, _⟩ := hX.map.del plW cmU p (P := Try.prog) (ty := 0)
      exact ⟨w', hr, hX.recell hf hm (fun q hq => hX.acc q (mem_del hq)), hf.mono (fun k _ e => .inr (.inl e))⟩
    obtain ⟨LA, Ln, Lc, hlv⟩ := gv_form HT5.out.acc p
    have hkL : ((lk L p).isSome = true) ∨ ((lk L p).isSome = false ∧ lk L p = none) := by
      cases lk L p with
      | none => exact .inr ⟨rfl, rfl⟩
      | some c => exact .inl rfl
    obtain ⟨L7, hL7⟩ : ∃ L7, L7 = gv (lk L p) := ⟨_, rfl⟩
    rw [← hL7] at HLL hlv
    obtain ⟨kL, hkl⟩ : ∃ kL, kL = (lk L p).isSome := ⟨_, rfl⟩
    rw [← hkl] at HLL hkL
    have HKL := hide hkl
    clear hL7 hkl
    obtain ⟨lv, lb, ls, ln, lg, lh, lp, lc⟩ := L7
    simp only at hlv
    subst hlv
    unfold cvV CV.cells at HLL
    simp only at HLL
    rw [HPV.out] at HLL HDEL
    generalize hps : strOfNums p.b = ps at *
    generalize hpf : p.f = pf at *
    generalize hpt : p.t = pt at *
    have HPE := hide (And.intro hps (And.intro hpf hpt))
    clear hps hpf hpt
    have HS : Hid (∀ X : World, Below w5.heap.size w5 X → (fun X : World => X.cell? ⟨tb, 0, none⟩ = some (.map (some cb)) ∧ X.cell? ⟨pb, 0, none⟩ = some (.string ps) ∧ X.cell? ⟨pb, 1, none⟩ = some (.int .i64 pf) ∧ X.cell? ⟨pb, 2, none⟩ = some (.int .i64 pt) ∧ (Instr.lookup cmT (.map (some cb)) (.agg #[.string ps, .int .i64 pf, .int .i64 pt]) true).run Try.prog X = .ok (.tuple #[.agg #[.slice LA Ln Lc, .int .i64 ls, .int .i64 ln, .int .i64 lg, .int .i64 lh, .bool lp, .bool lc], .bool kL]) X) X) := fun X hX => by
      have h1 := HT5.out.below hX
      have h2 := HPB5.out.below hX HPB5.out.lt
      exact ⟨h1.blk.cell 0, h2.cell 0, h2.cell 1, h2.cell 2, HLL.out X hX⟩
    have HD1 : Hid (∀ X : World, Below w5.heap.size w5 X → Below w5.heap.size w5 X.drew) := fun X hX => hX.drewN 1
    have HA1 : Hid (∀ (X : World) (o : Obj), Below w5.heap.size w5 X → Below w5.heap.size w5 (X.alloc o)) := fun X o hX => hX.alloc hX.size o
    have HR1 := hide (Below.refl w5.heap.size w5)
    have HSET : Hid (∀ (X : World) (nb : Nat) (a b c d e f g : Value), Below w5.heap.size w5 X → w5.heap.size ≤ nb → (fun X : World => X.cell? ⟨tb, 0, none⟩ = some (.map (some cb)) ∧ X.cell? ⟨pb, 0, none⟩ = some (.string ps) ∧ X.cell? ⟨pb, 1, none⟩ = some (.int .i64 pf) ∧ X.cell? ⟨pb, 2, none⟩ = some (.int .i64 pt) ∧ (Instr.lookup cmT (.map (some cb)) (.agg #[.string ps, .int .i64 pf, .int .i64 pt]) true).run Try.prog X = .ok (.tuple #[.agg #[.slice LA Ln Lc, .int .i64 ls, .int .i64 ln, .int .i64 lg, .int .i64 lh, .bool lp, .bool lc], .bool kL]) X) (World.drew (((((((X.setCell ⟨nb, 0, none⟩ a).setCell ⟨nb, 1, none⟩ b).setCell ⟨nb, 2, none⟩ c).setCell ⟨nb, 3, none⟩ d).setCell ⟨nb, 4, none⟩ e).setCell ⟨nb, 5, none⟩ f).setCell ⟨nb, 6, none⟩ g))) := fun X nb a b c d e f g hX hn => HS.out _ ((put7_below hX hn a b c d e f g).drewN 1)
    have HZ7 : Hid (∀ (X : World) (nb : Nat) (a b c d e f g : Value), X.heap.size = nb → Below w5.heap.size w5 X → Below w5.heap.size w5 ((((((((X.alloc (.cells #[.slice none 0 0, .int .i64 0, .int .i64 0, .int .i64 0, .int .i64 0, .bool false, .bool false] cvT)).setCell ⟨nb, 0, none⟩ a).setCell ⟨nb, 1, none⟩ b).setCell ⟨nb, 2, none⟩ c).setCell ⟨nb, 3, none⟩ d).setCell ⟨nb, 4, none⟩ e).setCell ⟨nb, 5, none⟩ f).setCell ⟨nb, 6, none⟩ g)) := fun X nb a b c d e f g hn hX => by
      subst hn
      exact put7_below (hX.alloc hX.size _) hX.size _ _ _ _ _ _ _
    go_cut [7, 8] from 14 to 22 (fun q7 q8 wx => q8 = .bool kL ∧ Hid (Below w5.heap.size w5 wx))
    case first =>
      obtain ⟨s0, s1, s2, s3, s4⟩ := HS.out w5 HR1.out
      go_region_held3 (fun X : World => X.cell? ⟨tb, 0, none⟩ = some (.map (some cb)) ∧ X.cell? ⟨pb, 0, none⟩ = some (.string ps) ∧ X.cell? ⟨pb, 1, none⟩ = some (.int .i64 pf) ∧ X.cell? ⟨pb, 2, none⟩ = some (.int .i64 pt) ∧ (Instr.lookup cmT (.map (some cb)) (.agg #[.string ps, .int .i64 pf, .int .i64 pt]) true).run Try.prog X = .ok (.tuple #[.agg #[.slice LA Ln Lc, .int .i64 ls, .int .i64 ln, .int .i64 lg, .int .i64 lh, .bool lp, .bool lc], .bool kL]) X) (first
        | with_reducible exact HS.out _ (HD1.out _ HR1.out)
        | with_reducible exact HS.out _ (HD1.out _ (HA1.out _ _ HR1.out))
        | with_reducible exact HS.out _ HR1.out
        | with_reducible exact HSET.out _ _ _ _ _ _ _ _ _ (HA1.out _ _ HR1.out) (Nat.le_refl _)) (fail)
      all_goals
        go_wp2_with fail
        go_meet
        case rel => first
          | exact ⟨rfl, HD1.out _ (HA1.out _ _ HR1.out)⟩
          | exact ⟨rfl, HD1.out _ (HZ7.out w5 w5.heap.size _ _ _ _ _ _ _ rfl HR1.out)⟩
    case rest =>
    obtain ⟨rfl, HBC⟩ := hcut
    have HT6 := hide (HT5.out.below HBC.out)
    have HPB6 := hide (HPB5.out.below HBC.out HPB5.out.lt)
    have HB6 := hide (HB5.out.trans (HBC.out.mono HB5.out.size))
    clear HBC HS HD1 HA1 HR1 HSET HZ7 HLL HT5 HPB5 HB5
    rcases hkL with rfl | ⟨rfl, hL0⟩
    · have p0 : wc.cell? ⟨pb, 0, none⟩ = some (.string ps) := HPB6.out.cell 0
      have p1 : wc.cell? ⟨pb, 1, none⟩ = some (.int .i64 pf) := HPB6.out.cell 1
      have p2 : wc.cell? ⟨pb, 2, none⟩ = some (.int .i64 pt) := HPB6.out.cell 2
      have hpl := HPB6.out.lt
      have hkeep := HKP.out wc HT6.out
      have HKE := hide hkeep
      clear hkeep
      go_wp2_with fail
      refine HKE.out.mono ?_
      clear HKE HKP p0 p1 p2 hpl
      rintro e w6 ⟨rfl, hT7, hf7⟩
      have HT7 := hide hT7
      have HF7 : Hid (Fr (TBk tb cb wm fm bg) w w6) := (Fr.of_below HB6.out : Fr (TBk tb cb wm fm bg) w wc).trans hf7 (fun _ _ h => h)
      have HPB7 := hide (hf7.blk HPB6.out (HT6.out.nblk HPB6.out (by decide)))
      clear hT7 hf7 HT6 HB6 HPB6
      obtain ⟨w8, hr, hT8, hf8⟩ := HDEL.out w6.drew _ _ (HT7.out.below ((Below.refl _ _).drewN 1))
      have HT8 := hide hT8
      have HF8 : Hid (Fr (TBk tb cb wm fm bg) w w8) := (HF7.out.drew).trans hf8 (fun _ _ e => e)
      have hP8 := hf8.drew0.blk HPB7.out (HT7.out.nblk HPB7.out (by decide))
      have t0 : w6.cell? ⟨tb, 0, none⟩ = some (.map (some cb)) := HT7.out.blk.cell 0
      have p0 : w6.cell? ⟨pb, 0, none⟩ = some (.string ps) := HPB7.out.cell 0
      have p1 : w6.cell? ⟨pb, 1, none⟩ = some (.int .i64 pf) := HPB7.out.cell 1
      have p2 : w6.cell? ⟨pb, 2, none⟩ = some (.int .i64 pt) := HPB7.out.cell 2
      have HS6 : Hid (w6.cell? ⟨tb, 0, none⟩ = some (.map (some cb)) ∧ w6.cell? ⟨pb, 0, none⟩ = some (.string ps) ∧ w6.cell? ⟨pb, 1, none⟩ = some (.int .i64 pf) ∧ w6.cell? ⟨pb, 2, none⟩ = some (.int .i64 pt)) := ⟨t0, p0, p1, p2⟩
      have HSD : Hid (w6.drew.cell? ⟨tb, 0, none⟩ = some (.map (some cb)) ∧ w6.drew.cell? ⟨pb, 0, none⟩ = some (.string ps) ∧ w6.drew.cell? ⟨pb, 1, none⟩ = some (.int .i64 pf) ∧ w6.drew.cell? ⟨pb, 2, none⟩ = some (.int .i64 pt)) := ⟨t0, p0, p1, p2⟩
      have HS8 : Hid (w8.cell? ⟨tb, 0, none⟩ = some (.map (some cb)) ∧ w8.cell? ⟨pb, 0, none⟩ = some (.string ps) ∧ w8.cell? ⟨pb, 1, none⟩ = some (.int .i64 pf) ∧ w8.cell? ⟨pb, 2, none⟩ = some (.int .i64 pt)) := ⟨HT8.out.blk.cell 0, hP8.cell 0, hP8.cell 1, hP8.cell 2⟩
      clear hT8 hf8 hP8 HDEL
      go_wp2_with fail
      go_region_held3 (fun X : World => X.cell? ⟨tb, 0, none⟩ = some (.map (some cb)) ∧ X.cell? ⟨pb, 0, none⟩ = some (.string ps) ∧ X.cell? ⟨pb, 1, none⟩ = some (.int .i64 pf) ∧ X.cell? ⟨pb, 2, none⟩ = some (.int .i64 pt)) (first | with_reducible exact HS6.out | with_reducible exact HSD.out | with_reducible exact HS8.out) (fail)
      go_wp2_with fail
      go_ret2
      refine .inr ⟨p, HP.out.1, HPE.out.2.1.trans HP.out.2.1, HPE.out.2.2.trans HP.out.2.2, ?_, ?_, HF8.out⟩
      · rw [← HKL.out]; rfl
      · rw [← HKL.out]; exact HT8.out
    · have HL0 := hide hL0
      clear hL0
      go_wp2_with fail
      go_ret2
      refine .inr ⟨p, HP.out.1, HPE.out.2.1.trans HP.out.2.1, HPE.out.2.2.trans HP.out.2.2, ?_, ?_, Fr.of_below HB6.out⟩
      · rw [← HKL.out]; rfl
      · rw [← HKL.out, lk_fk HL0.out]; exact HT6.out
  · have HR := hide hkr
    rw [decide_eq_false hkr]
    clear hkr
    go_wp2_with fail
    go_ret2
    exact .inl ⟨fun h9 => HR.out (by rw [← HKN.out]; exact h9), rfl, HB2.out⟩

end Go.Proofs.Ytkobaidamdffmaa
