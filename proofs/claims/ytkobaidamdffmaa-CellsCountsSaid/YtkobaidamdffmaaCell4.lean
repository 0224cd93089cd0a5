/- cells.Table: Put. -/
import Derived.Test.YtkobaidamdffmaaCell3
namespace Go.Proofs.Ytkobaidamdffmaa
open Go.RowKit Go.Sort
set_option linter.unusedVariables false
set_option linter.unusedSimpArgs false

/-- what Put leaves -/
def PutP (w : World) (base tb cb : Nat) (wm fm : Option Nat) (bg : Bool) (L W : List (PK × CV)) (F : List (PK × Int)) (kb : List Int) (f t : Int) (d : CD) (e : Ending) (w' : World) : Prop :=
  (¬ (keyR kb.length f t ∧ d.right) ∧ e = .returned (.int .i64 150) ∧ Below w.heap.size w w') ∨
  (d.right ∧ e = .returned (.int .i64 0) ∧ ∃ p : PK, p.b = kb ∧ p.f = f ∧ p.t = t ∧ ∃ c' : CV, c'.d = d ∧ TabS w' base tb cb wm fm bg (putM L p c') (kpW bg L W F p) (kpF bg L W F p) ∧ Fr (TBk tb cb wm fm bg) w w')

set_option maxRecDepth 100000 in
set_option maxHeartbeats 8000000 in
theorem cput_any (w : World) (base tb cb B kn kc an ac : Nat) (wm fm : Option Nat) (bg : Bool) (L W : List (PK × CV)) (F : List (PK × Int)) (kA aA : Option Addr) (kb : List Int) (f t : Int) (d : CD) (h : TabS w base tb cb wm fm bg L W F)
    (hk : Sl w B (.slice kA kn kc) 1 kn (bys kb)) (hkn : kb.length = kn) (h8 : Bytes8 kb) (ha : ∀ X, Fr (TBk tb cb wm fm bg) w X → Sl X B (.slice aA an ac) 1 an (bys d.b)) (han : d.b.length = an) (ha8 : Bytes8 d.b) (hB : B ≤ w.heap.size) (hbase : base ≤ w.heap.size) :
    Calls Try.prog 10 #[.pointer (some ⟨tb, 0, none⟩), .agg #[.slice kA kn kc, .int .i64 f, .int .i64 t], .agg #[.slice aA an ac, .int .i64 d.s, .int .i64 d.n, .int .i64 d.g, .int .i64 d.h, .bool d.p, .bool d.c]] w (PutP w base tb cb wm fm bg L W F kb f t d) := by
  have HT := hide h
  have HK := hide hk
  have HKN := hide hkn
  have H8 := hide h8
  have HA := hide ha
  have HAN := hide han
  have HA8 := hide ha8
  have HKR := hide (fun X => kright_any kA kn kc f t X)
  have HCR := hide (fun X => cright_any (.slice aA an ac) aA an ac d X rfl han)
  unfold CV.cells at HCR
  simp only at HCR
  have HB1 : Hid (Below w.heap.size w ((w.alloc (.cells #[.slice kA kn kc, .int .i64 f, .int .i64 t] keyT)).alloc (.cells #[.slice aA an ac, .int .i64 d.s, .int .i64 d.n, .int .i64 d.g, .int .i64 d.h, .bool d.p, .bool d.c] cvT))) := ((Below.refl w.heap.size w).alloc (Nat.le_refl _) _).alloc (by simp) _
  have HKB : Hid (Blk ((w.alloc (.cells #[.slice kA kn kc, .int .i64 f, .int .i64 t] keyT)).alloc (.cells #[.slice aA an ac, .int .i64 d.s, .int .i64 d.n, .int .i64 d.g, .int .i64 d.h, .bool d.p, .bool d.c] cvT)) w.heap.size keyT #[.slice kA kn kc, .int .i64 f, .int .i64 t]) := (Blk.new w _ _).alloc _
  have HCB : Hid (Blk ((w.alloc (.cells #[.slice kA kn kc, .int .i64 f, .int .i64 t] keyT)).alloc (.cells #[.slice aA an ac, .int .i64 d.s, .int .i64 d.n, .int .i64 d.g, .int .i64 d.h, .bool d.p, .bool d.c] cvT)) (w.heap.size + 1) cvT #[.slice aA an ac, .int .i64 d.s, .int .i64 d.n, .int .i64 d.g, .int .i64 d.h, .bool d.p, .bool d.c]) := by
    have h9 := Blk.new (w.alloc (.cells #[.slice kA kn kc, .int .i64 f, .int .i64 t] keyT)) cvT #[.slice aA an ac, .int .i64 d.s, .int .i64 d.n, .int .i64 d.g, .int .i64 d.h, .bool d.p, .bool d.c]
    simpa [Hid] using h9
  clear h hk hkn h8 ha han ha8
  go_enter Try.func10, Try.ntmps10
  go_wp2_with fail
  generalize (w.alloc (.cells #[.slice kA kn kc, .int .i64 f, .int .i64 t] keyT)).alloc (.cells #[.slice aA an ac, .int .i64 d.s, .int .i64 d.n, .int .i64 d.g, .int .i64 d.h, .bool d.p, .bool d.c] cvT) = w1 at *
  obtain ⟨qb, hqb⟩ : ∃ qb, qb = w.heap.size := ⟨_, rfl⟩
  obtain ⟨rb, hrb⟩ : ∃ rb, rb = w.heap.size + 1 := ⟨_, rfl⟩
  have HNB : Hid (w.heap.size ≤ qb ∧ w.heap.size ≤ rb) := ⟨by omega, by omega⟩
  rw [← hrb] at HCB ⊢
  rw [← hqb] at HKB ⊢
  clear hqb hrb
  refine (HKR.out w1).mono ?_
  clear HKR
  rintro e w2 ⟨rfl, hb2⟩
  have HB2 := hide (HB1.out.trans (hb2.mono HB1.out.size))
  have HKB2 := hide (HKB.out.below hb2 HKB.out.lt)
  have HCB2 := hide (HCB.out.below hb2 HCB.out.lt)
  clear hb2 HB1 HKB HCB
  have q0 : w2.cell? ⟨rb, 0, none⟩ = some (.slice aA an ac) := HCB2.out.cell 0
  have q1 : w2.cell? ⟨rb, 1, none⟩ = some (.int .i64 d.s) := HCB2.out.cell 1
  have q2 : w2.cell? ⟨rb, 2, none⟩ = some (.int .i64 d.n) := HCB2.out.cell 2
  have q3 : w2.cell? ⟨rb, 3, none⟩ = some (.int .i64 d.g) := HCB2.out.cell 3
  have q4 : w2.cell? ⟨rb, 4, none⟩ = some (.int .i64 d.h) := HCB2.out.cell 4
  have q5 : w2.cell? ⟨rb, 5, none⟩ = some (.bool d.p) := HCB2.out.cell 5
  have q6 : w2.cell? ⟨rb, 6, none⟩ = some (.bool d.c) := HCB2.out.cell 6
  have hql := HCB2.out.lt
  by_cases hkr : keyR kn f t
  · have HR := hide hkr
    rw [decide_eq_true hkr]
    clear hkr
    go_wp2_with fail
    refine (HCR.out w2).mono ?_
    clear HCR q0 q1 q2 q3 q4 q5 q6 hql
    rintro e w3 ⟨rfl, hb3⟩
    have HB3 := hide (HB2.out.trans (hb3.mono HB2.out.size))
    have HKB3 := hide (HKB2.out.below hb3 HKB2.out.lt)
    have HCB3 := hide (HCB2.out.below hb3 HCB2.out.lt)
    clear hb3 HB2 HKB2 HCB2
    by_cases hcr : d.right
    · have HC := hide hcr
      rw [decide_eq_true hcr]
      clear hcr
      have p0 : w3.cell? ⟨qb, 0, none⟩ = some (.slice kA kn kc) := HKB3.out.cell 0
      have p1 : w3.cell? ⟨qb, 1, none⟩ = some (.int .i64 f) := HKB3.out.cell 1
      have p2 : w3.cell? ⟨qb, 2, none⟩ = some (.int .i64 t) := HKB3.out.cell 2
      have hpl := HKB3.out.lt
      obtain ⟨p, hpk⟩ : ∃ p : PK, p.b = kb ∧ p.f = f ∧ p.t = t := ⟨⟨kb, f, t, H8.out, by rw [HKN.out]; exact HR.out.1, HR.out.2⟩, rfl, rfl, rfl⟩
      have HP := hide hpk
      have hs : strOfNums kb = strOfNums p.b := by rw [hpk.1]
      go_wp2_with fail
      refine (at_any _ kb kn B f t w3 (HK.out.below (HB3.out.mono hB)) HKN.out (Nat.le_trans hB HB3.out.size)).mono ?_
      clear p0 p1 p2 hpl
      rintro e w4 ⟨rfl, hb4⟩
      rw [hs, ← hpk.2.1, ← hpk.2.2]
      clear hs hpk
      have HB4 := hide (HB3.out.trans (hb4.mono HB3.out.size))
      have HCB4 := hide (HCB3.out.below hb4 HCB3.out.lt)
      clear hb4 HB3 HKB3 HCB3
      have HB5 : Hid (Below w.heap.size w (w4.alloc (.cells #[.string (strOfNums p.b), .int .i64 p.f, .int .i64 p.t] plT))) := HB4.out.alloc HB4.out.size _
      have HPB5 : Hid (Blk (w4.alloc (.cells #[.string (strOfNums p.b), .int .i64 p.f, .int .i64 p.t] plT)) w4.heap.size plT #[.string (strOfNums p.b), .int .i64 p.f, .int .i64 p.t]) := Blk.new w4 _ _
      have HCB5 := hide (HCB4.out.alloc (.cells #[.string (strOfNums p.b), .int .i64 p.f, .int .i64 p.t] plT))
      go_wp2_with fail
      generalize w4.alloc (.cells #[.string (strOfNums p.b), .int .i64 p.f, .int .i64 p.t] plT) = w5 at *
      obtain ⟨pb, hpb⟩ : ∃ pb, pb = w4.heap.size := ⟨_, rfl⟩
      rw [← hpb] at HPB5 ⊢
      clear hpb
      have HT5 := hide (HT.out.below HB5.out)
      refine (keep_any w5 base tb cb wm fm bg L W F p HT5.out).mono ?_
      rintro e w6 ⟨rfl, hT6, hf6⟩
      have HT6 := hide hT6
      have HF6 : Hid (Fr (TBk tb cb wm fm bg) w w6) := (Fr.of_below HB5.out : Fr (TBk tb cb wm fm bg) w w5).trans hf6 (fun _ _ h => h)
      have HPB6 := hide (hf6.blk HPB5.out (HT5.out.nblk HPB5.out (by decide)))
      have HCB6 := hide (hf6.blk HCB5.out (HT5.out.nblk HCB5.out (by decide)))
      clear hT6 hf6 HB4 HCB4 HT5 HPB5 HCB5
      have q0 : w6.cell? ⟨rb, 0, none⟩ = some (.slice aA an ac) := HCB6.out.cell 0
      have hql := HCB6.out.lt
      have hz6 := HF6.out.size
      have hacn : an ≤ 140737488355328 := by have h9 := HC.out.1; rw [HAN.out] at h9; omega
      go_wp2_with fail
      refine (bclone_any _ d.b an B w6 (HA.out w6 HF6.out) HAN.out hacn (Nat.le_trans hB hz6)).mono ?_
      clear q0 hql
      rintro e w7 ⟨u, rfl, ho7, hb7⟩
      obtain ⟨uA, uc, rfl, huc⟩ := ho7.sl.form
      have HT7 := hide (HT6.out.below hb7)
      have HF7 : Hid (Fr (TBk tb cb wm fm bg) w w7) := HF6.out.trans (Fr.of_below hb7 : Fr nob w6 w7) (fun _ _ h => h.elim)
      have HPB7 := hide (HPB6.out.below hb7 HPB6.out.lt)
      have HCB7 := hide (HCB6.out.below hb7 HCB6.out.lt)
      have HO7 := hide (ho7.lower (Nat.le_trans hbase hz6))
      clear ho7 hb7 HT6 HF6 HPB6 HCB6
      have HCN : Hid ((Value.slice uA an uc).ownBlock ≠ some rb) := HO7.out.ne HCB7.out (by decide)
      have HW8 : Hid (TabS (w7.setCell ⟨rb, 0, none⟩ (.slice uA an uc)) base tb cb wm fm bg L (kpW bg L W F p) (kpF bg L W F p) ∧ Fr (TBk tb cb wm fm bg) w (w7.setCell ⟨rb, 0, none⟩ (.slice uA an uc)) ∧ Blk (w7.setCell ⟨rb, 0, none⟩ (.slice uA an uc)) pb plT #[.string (strOfNums p.b), .int .i64 p.f, .int .i64 p.t] ∧
          Blk (w7.setCell ⟨rb, 0, none⟩ (.slice uA an uc)) rb cvT #[.slice uA an uc, .int .i64 d.s, .int .i64 d.n, .int .i64 d.g, .int .i64 d.h, .bool d.p, .bool d.c] ∧ Own (w7.setCell ⟨rb, 0, none⟩ (.slice uA an uc)) base bT 1 (.slice uA an uc) an (bys d.b)) := by
        have hfr : Fr (fun j => j = rb) w7 (w7.setCell ⟨rb, 0, none⟩ (.slice uA an uc)) := (Fr.refl _ w7).put1 0 _
        refine ⟨HT7.out.fr hfr (fun j hj e => by rw [e] at hj; exact HT7.out.nblk HCB7.out (by decide) hj) (fun g cs hc e => by rw [e] at hc; exact (hc.apart HCB7.out (by decide)) rfl), HF7.out.put (.inr HNB.out.2) _, HPB7.out.far (p := ⟨rb, 0, none⟩) (HPB7.out.apart HCB7.out (by decide)) _, HCB7.out.put 0 _, HO7.out.put (p := ⟨rb, 0, none⟩) HCN.out _⟩
      have y0 := HCB7.out.frozen 0
      have hql := HCB7.out.lt
      have q0 : w7.cell? ⟨rb, 0, none⟩ = some (.slice aA an ac) := HCB7.out.cell 0
      go_upto_region 6 with fail
      generalize w7.setCell ⟨rb, 0, none⟩ (.slice uA an uc) = w8 at *
      clear HT7 HF7 HPB7 HCB7 HO7 q0 y0 hql HCN
      have t0 : w8.cell? ⟨tb, 0, none⟩ = some (.map (some cb)) := HW8.out.1.blk.cell 0
      have p0 : w8.cell? ⟨pb, 0, none⟩ = some (.string (strOfNums p.b)) := HW8.out.2.2.1.cell 0
      have p1 : w8.cell? ⟨pb, 1, none⟩ = some (.int .i64 p.f) := HW8.out.2.2.1.cell 1
      have p2 : w8.cell? ⟨pb, 2, none⟩ = some (.int .i64 p.t) := HW8.out.2.2.1.cell 2
      have q0 : w8.cell? ⟨rb, 0, none⟩ = some (.slice uA an uc) := HW8.out.2.2.2.1.cell 0
      have q1 : w8.cell? ⟨rb, 1, none⟩ = some (.int .i64 d.s) := HW8.out.2.2.2.1.cell 1
      have q2 : w8.cell? ⟨rb, 2, none⟩ = some (.int .i64 d.n) := HW8.out.2.2.2.1.cell 2
      have q3 : w8.cell? ⟨rb, 3, none⟩ = some (.int .i64 d.g) := HW8.out.2.2.2.1.cell 3
      have q4 : w8.cell? ⟨rb, 4, none⟩ = some (.int .i64 d.h) := HW8.out.2.2.2.1.cell 4
      have q5 : w8.cell? ⟨rb, 5, none⟩ = some (.bool d.p) := HW8.out.2.2.2.1.cell 5
      have q6 : w8.cell? ⟨rb, 6, none⟩ = some (.bool d.c) := HW8.out.2.2.2.1.cell 6
      have hacc : AccO w8.drew base ⟨.slice uA an uc, d⟩ := ⟨by have h9 := HW8.out.2.2.2.2; rw [← HAN.out] at h9 ⊢; exact h9, HA8.out, HC.out⟩
      have hTD : TabS w8.drew base tb cb wm fm bg L (kpW bg L W F p) (kpF bg L W F p) := HW8.out.1.below ((Below.refl _ _).drewN 1)
      obtain ⟨w9, hr, hm, hf, _⟩ := hTD.map.upd plW cmU p ⟨.slice uA an uc, d⟩ (P := Try.prog)
      have HT9 : Hid (TabS w9 base tb cb wm fm bg (putM L p ⟨.slice uA an uc, d⟩) (kpW bg L W F p) (kpF bg L W F p)) := hTD.recell hf hm (fun q hq => by
        rcases mem_put hq with h9 | h9
        · exact hTD.acc q h9
        · rw [h9]; exact hacc)
      have HF9 : Hid (Fr (TBk tb cb wm fm bg) w w9) := (HW8.out.2.1.drew).trans hf (fun k _ e => .inr (.inl e))
      have hfb : Fr (TBk tb cb wm fm bg) w8 w9 := (Fr.mono (T := TBk tb cb wm fm bg) hf (fun k _ e => .inr (.inl e))).drew0
      have hP9 := hfb.blk HW8.out.2.2.1 (HW8.out.1.nblk HW8.out.2.2.1 (by decide))
      have hQ9 := hfb.blk HW8.out.2.2.2.1 (HW8.out.1.nblk HW8.out.2.2.2.1 (by decide))
      have HS8 : Hid (w8.cell? ⟨tb, 0, none⟩ = some (.map (some cb)) ∧ w8.cell? ⟨pb, 0, none⟩ = some (.string (strOfNums p.b)) ∧ w8.cell? ⟨pb, 1, none⟩ = some (.int .i64 p.f) ∧ w8.cell? ⟨pb, 2, none⟩ = some (.int .i64 p.t) ∧ w8.cell? ⟨rb, 0, none⟩ = some (.slice uA an uc) ∧ w8.cell? ⟨rb, 1, none⟩ = some (.int .i64 d.s) ∧ w8.cell? ⟨rb, 2, none⟩ = some (.int .i64 d.n) ∧ w8.cell? ⟨rb, 3, none⟩ = some (.int .i64 d.g) ∧ w8.cell? ⟨rb, 4, none⟩ = some (.int .i64 d.h) ∧ w8.cell? ⟨rb, 5, none⟩ = some (.bool d.p) ∧ w8.cell? ⟨rb, 6, none⟩ = some (.bool d.c)) := ⟨t0, p0, p1, p2, q0, q1, q2, q3, q4, q5, q6⟩
      have HSD : Hid (w8.drew.cell? ⟨tb, 0, none⟩ = some (.map (some cb)) ∧ w8.drew.cell? ⟨pb, 0, none⟩ = some (.string (strOfNums p.b)) ∧ w8.drew.cell? ⟨pb, 1, none⟩ = some (.int .i64 p.f) ∧ w8.drew.cell? ⟨pb, 2, none⟩ = some (.int .i64 p.t) ∧ w8.drew.cell? ⟨rb, 0, none⟩ = some (.slice uA an uc) ∧ w8.drew.cell? ⟨rb, 1, none⟩ = some (.int .i64 d.s) ∧ w8.drew.cell? ⟨rb, 2, none⟩ = some (.int .i64 d.n) ∧ w8.drew.cell? ⟨rb, 3, none⟩ = some (.int .i64 d.g) ∧ w8.drew.cell? ⟨rb, 4, none⟩ = some (.int .i64 d.h) ∧ w8.drew.cell? ⟨rb, 5, none⟩ = some (.bool d.p) ∧ w8.drew.cell? ⟨rb, 6, none⟩ = some (.bool d.c)) := ⟨t0, p0, p1, p2, q0, q1, q2, q3, q4, q5, q6⟩
      have HS9 : Hid (w9.cell? ⟨tb, 0, none⟩ = some (.map (some cb)) ∧ w9.cell? ⟨pb, 0, none⟩ = some (.string (strOfNums p.b)) ∧ w9.cell? ⟨pb, 1, none⟩ = some (.int .i64 p.f) ∧ w9.cell? ⟨pb, 2, none⟩ = some (.int .i64 p.t) ∧ w9.cell? ⟨rb, 0, none⟩ = some (.slice uA an uc) ∧ w9.cell? ⟨rb, 1, none⟩ = some (.int .i64 d.s) ∧ w9.cell? ⟨rb, 2, none⟩ = some (.int .i64 d.n) ∧ w9.cell? ⟨rb, 3, none⟩ = some (.int .i64 d.g) ∧ w9.cell? ⟨rb, 4, none⟩ = some (.int .i64 d.h) ∧ w9.cell? ⟨rb, 5, none⟩ = some (.bool d.p) ∧ w9.cell? ⟨rb, 6, none⟩ = some (.bool d.c)) := ⟨HT9.out.blk.cell 0, hP9.cell 0, hP9.cell 1, hP9.cell 2, hQ9.cell 0, hQ9.cell 1, hQ9.cell 2, hQ9.cell 3, hQ9.cell 4, hQ9.cell 5, hQ9.cell 6⟩
      have hrun : (Instr.mapUpdate cmT (.map (some cb)) (.agg #[.string (strOfNums p.b), .int .i64 p.f, .int .i64 p.t]) (.agg #[.slice uA an uc, .int .i64 d.s, .int .i64 d.n, .int .i64 d.g, .int .i64 d.h, .bool d.p, .bool d.c])).run Try.prog w8.drew = .ok () w9 := hr
      clear hacc hTD hr hm hf hfb hP9 hQ9
      go_region_held3 (fun X : World => X.cell? ⟨tb, 0, none⟩ = some (.map (some cb)) ∧ X.cell? ⟨pb, 0, none⟩ = some (.string (strOfNums p.b)) ∧ X.cell? ⟨pb, 1, none⟩ = some (.int .i64 p.f) ∧ X.cell? ⟨pb, 2, none⟩ = some (.int .i64 p.t) ∧ X.cell? ⟨rb, 0, none⟩ = some (.slice uA an uc) ∧ X.cell? ⟨rb, 1, none⟩ = some (.int .i64 d.s) ∧ X.cell? ⟨rb, 2, none⟩ = some (.int .i64 d.n) ∧ X.cell? ⟨rb, 3, none⟩ = some (.int .i64 d.g) ∧ X.cell? ⟨rb, 4, none⟩ = some (.int .i64 d.h) ∧ X.cell? ⟨rb, 5, none⟩ = some (.bool d.p) ∧ X.cell? ⟨rb, 6, none⟩ = some (.bool d.c)) (first | with_reducible exact HS8.out | with_reducible exact HSD.out | with_reducible exact HS9.out) (fail)
      go_wp2_with fail
      go_ret
      exact .inr ⟨HC.out, rfl, p, HP.out.1, HP.out.2.1, HP.out.2.2, ⟨.slice uA an uc, d⟩, rfl, HT9.out, HF9.out⟩
    · have HC := hide hcr
      rw [decide_eq_false hcr]
      clear hcr
      go_wp2_with fail
      go_ret
      exact .inl ⟨fun h9 => HC.out h9.2, rfl, HB3.out⟩
  · have HR := hide hkr
    rw [decide_eq_false hkr]
    clear hkr
    go_wp2_with fail
    go_ret
    exact .inl ⟨fun h9 => HR.out (by rw [← HKN.out]; exact h9.1), rfl, HB2.out⟩

end Go.Proofs.Ytkobaidamdffmaa
