/- The law's step: Join, and kinds that are none. -/
import Derived.Test.YtghkkekebjhjlaaLaw10g
namespace Go.Proofs.Ytghkkekebjhjlaa
open Go.RowKit
set_option linter.unusedVariables false
set_option linter.unusedSimpArgs false

section
variable {w w' : World} {bm lm bo lo base b base' y : Nat} {v u : Value} {D E : List Inf} {s s' : Spc} {m m' : Mst}
theorem MR.rfr (h : MR w bm lm s m) (hR : RR w base b v D s' m') (hf : RFr b v w w') : MR w' bm lm s m :=
  h.fr hf (fun h9 => by rcases h9 with h9 | h9; exact hR.1.apart h.1 (by decide) h9.symm; exact (hR.2.ne h.1 (by decide)) h9) (fun h9 => by rcases h9 with h9 | h9; exact hR.1.apart h.2 (by decide) h9.symm; exact (hR.2.ne h.2 (by decide)) h9)
theorem RR.mfr (h : RR w base b v D s m) (hM : MR w bm lm s' m') (hf : MFr bm lm w w') : RR w' base b v D s m :=
  h.fr hf (fun h9 => by rcases h9 with h9 | h9; exact h.1.apart hM.1 (by decide) h9; exact h.1.apart hM.2 (by decide) h9) (fun g hg hg' => by
    rcases hg' with h9 | h9
    · rw [h9] at hg; exact (h.2.ne hM.1 (by decide)) hg
    · rw [h9] at hg; exact (h.2.ne hM.2 (by decide)) hg)
theorem MR.mfr (h : MR w bm lm s m) (hf : MFr bo lo w w') (h1 : bm ≠ bo) (h2 : bm ≠ lo) (h3 : lm ≠ bo) (h4 : lm ≠ lo) : MR w' bm lm s m :=
  h.fr hf (fun h9 => by rcases h9 with h9 | h9; exact h1 h9; exact h2 h9) (fun h9 => by rcases h9 with h9 | h9; exact h3 h9; exact h4 h9)
theorem RR.rfr (h : RR w base b v D s m) (hy : RR w base' y u E s' m') (hf : RFr y u w w') (h1 : b ≠ y) (h2 : ∀ g, v.ownBlock = some g → u.ownBlock ≠ some g) : RR w' base b v D s m :=
  h.fr hf (fun h9 => by rcases h9 with h9 | h9; exact h1 h9; exact (hy.2.ne h.1 (by decide)) h9) (fun g hg hg' => by
    rcases hg' with h9 | h9
    · rw [h9] at hg; exact (h.2.ne hy.1 (by decide)) hg
    · exact h2 g hg h9)
theorem RFr.away (hf : RFr b v w w') (hR : RR w base b v D s m) {B : Nat} (h1 : B ≤ b) (h2 : B ≤ base) (hB : B ≤ w.heap.size) : Below B w w' :=
  hf.below hB (fun k hk h9 => by rcases h9 with h9 | h9; omega; have := (hR.2.lt k h9).1; omega)
end
theorem GI.joined {D : List Inf} {m : Mst} (h : GI D m) (hy : yng m = true) (x : Int) (hx : 0 ≤ x) : GI D { m with fr := m.fr + x } := by
  have hp : m.ps = false := by simp [yng] at hy; exact hy.1
  have hc := (h.early hp).1
  exact ⟨h.run, h.on, by have := h.f0; show 0 ≤ m.fr + x; omega, fun h9 => by rw [show m.cl = true from h9] at hc; simp at hc, h.early, h.late⟩

set_option maxHeartbeats 16000000 in
set_option maxRecDepth 100000 in
theorem step_other (w : World) (B bm lm base b : Nat) (v : Value) (D : List Inf) (s : Spc) (m : Mst) (k on : Int) (oo : Bool) (hM : MR w bm lm s m) (hR : RR w base b v D s m) (hG : GI D m) (hS : s.ok = true)
    (hfr : m.fr ≤ 4611686018427386904) (hD : D.length ≤ 5864062014634) (hB1 : B ≤ bm) (hB2 : B ≤ lm) (hB3 : B ≤ base) (hB4 : B ≤ b) (hB5 : B ≤ w.heap.size) (hB6 : base ≤ w.heap.size) (k1 : k ≠ 1) (k2 : k ≠ 2) (k3 : k ≠ 3) (k4 : k ≠ 4) :
    Calls Try.prog 17 #[.pointer (some ⟨bm, 0, none⟩), .pointer (some ⟨b, 0, none⟩), s.val, .agg #[.int .i64 k, .int .i64 on, .bool oo]] w (SPost w B bm lm base b s D m) := by
  have HM := hide hM
  have HR := hide hR
  have HG := hide hG
  have HS := hide hS
  have hlm1 := hM.lt1
  have hlm2 := hM.lt2
  have hb1 := hR.1.lt
  clear hM hR hG hS
  simp only [Spc.val]
  have e1 : (k == 1) = false := by simpa using k1
  have e2 : (k == 2) = false := by simpa using k2
  have e3 : (k == 3) = false := by simpa using k3
  have e4 : (k == 4) = false := by simpa using k4
  clear k1 k2 k3 k4
  have HB2 := hide (((Below.refl B w).alloc hB5 (.cells #[.int .i64 s.e, .int .i64 s.l, .int .i64 s.t, .bool s.a] 28)).alloc (by simp; omega) (.cells #[.int .i64 k, .int .i64 on, .bool oo] 52))
  have HLN : Hid (Own ((w.alloc (.cells #[.int .i64 s.e, .int .i64 s.l, .int .i64 s.t, .bool s.a] 28)).alloc (.cells #[.int .i64 k, .int .i64 on, .bool oo] 52)) 0 pT 3 (.slice none 0 0) ([] : List Inf).length (infs [])) := Own.nil _ _ _ _
  have HUN : Hid (Own ((w.alloc (.cells #[.int .i64 s.e, .int .i64 s.l, .int .i64 s.t, .bool s.a] 28)).alloc (.cells #[.int .i64 k, .int .i64 on, .bool oo] 52)) 0 rI 3 (.slice none 0 0) ([] : List Inf).length (infs [])) := Own.nil _ _ _ _
  go_enter Try.func17, Try.ntmps17
  obtain ⟨rm, hrm⟩ : ∃ rm, rm = m := ⟨_, rfl⟩
  have HGX := hide HG.out
  have HMX := hide ((HM.out.alloc (.cells #[.int .i64 s.e, .int .i64 s.l, .int .i64 s.t, .bool s.a] 28)).alloc (.cells #[.int .i64 k, .int .i64 on, .bool oo] 52))
  have HRX := hide ((HR.out.alloc (.cells #[.int .i64 s.e, .int .i64 s.l, .int .i64 s.t, .bool s.a] 28)).alloc (.cells #[.int .i64 k, .int .i64 on, .bool oo] 52))
  rw [← hrm] at HGX HMX HRX
  have HRM := hide hrm
  clear hrm
  go_wp2_with fail
  refine (state_any ((w.alloc (.cells #[.int .i64 s.e, .int .i64 s.l, .int .i64 s.t, .bool s.a] 28)).alloc (.cells #[.int .i64 k, .int .i64 on, .bool oo] 52)) bm lm s rm HMX.out).mono ?_
  rintro e w9 ⟨rfl, hb9⟩
  have HM9 := hide (HMX.out.below hb9)
  have HR9 := hide (HRX.out.below hb9)
  have HB9 := hide (HB2.out.trans (hb9.mono (Nat.le_trans hB5 HB2.out.size)))
  have HL9 := hide (HLN.out.below hb9)
  have HU9 := hide (HUN.out.below hb9)
  clear hb9
  have hgn := HGX.out.n
  have HST := hide HGX.out.stg
  simp only [stVal]
  obtain ⟨rA, rc, hrv, hrc⟩ := HR9.out.form
  obtain ⟨c0, c1, c2, c4, c5, c6, c7, f5, f6, f7, hlt, f4⟩ := HR9.out.open
  rw [hrv] at c4
  have HSV : Hid (∀ (o : Obj) (n : Nat), Sl ((w9.alloc o).drewN n) ((w9.alloc o).drewN n).heap.size (.slice rA D.length rc) 3 D.length (infs D)) := fun o n => by rw [← hrv]; exact ((HR9.out.2.alloc o).drewN n).sl
  try simp only [List.length_append] at HSV
  rw [hgn]
  clear hgn f5 f6 f7 f4 c0 c1 c2
  go_wp2_with fail
  go_quiet (first
    | (go_at_call 29; refine Calls.quiet_of (same10 _ _ _ _ _ _ ((HL9.out.alloc _).drewN _).sl ((HU9.out.alloc _).drewN _).sl))
    | (go_at_call 30; refine Calls.quiet_of_same ((refStage _ D _ _ _ (HSV.out _ _) (by simp)).mono fun _ _ h => ⟨by rw [h.1, HST.out], h.2.symm⟩)))
  clear c4 c5 c6 c7
  go_wp2_with fail
  go_ret
  refine ⟨rfl, _, _, rm, (HM9.out.alloc _).drewN _, (HR9.out.alloc _).drewN _, HGX.out, ?_, ?_, (HB9.out.alloc (Nat.le_trans hB5 HB9.out.size) _).drewN _⟩
  · omega
  · rw [HRM.out]; omega

set_option maxHeartbeats 16000000 in
set_option maxRecDepth 100000 in
theorem step_join (w : World) (B bm lm base b : Nat) (v : Value) (D : List Inf) (s : Spc) (m : Mst) (on : Int) (oo : Bool) (hM : MR w bm lm s m) (hR : RR w base b v D s m) (hG : GI D m) (hS : s.ok = true)
    (hfr : m.fr ≤ 4611686018427386904) (hD : D.length ≤ 5864062014634) (hB1 : B ≤ bm) (hB2 : B ≤ lm) (hB3 : B ≤ base) (hB4 : B ≤ b) (hB5 : B ≤ w.heap.size) (hB6 : base ≤ w.heap.size)  :
    Calls Try.prog 17 #[.pointer (some ⟨bm, 0, none⟩), .pointer (some ⟨b, 0, none⟩), s.val, .agg #[.int .i64 4, .int .i64 on, .bool oo]] w (SPost w B bm lm base b s D m) := by
  have HM := hide hM
  have HR := hide hR
  have HG := hide hG
  have HS := hide hS
  have hlm1 := hM.lt1
  have hlm2 := hM.lt2
  have hb1 := hR.1.lt
  clear hM hR hG hS
  simp only [Spc.val]
  go_enter Try.func17, Try.ntmps17
  go_wp2_with fail
  refine (tnew_ok _ s HS.out).mono ?_
  rintro e w3 ⟨bo, lo, rfl, hm, hb, hbo, hlo⟩
  simp only [World.size_alloc] at hbo hlo
  have HB3 := hide ((((Below.refl B w).alloc hB5 (.cells #[.int .i64 s.e, .int .i64 s.l, .int .i64 s.t, .bool s.a] 28)).alloc (by simp; omega) (.cells #[.int .i64 4, .int .i64 on, .bool oo] 52)).trans (hb.mono (by simp; omega)))
  have HM3 := hide (((HM.out.alloc (.cells #[.int .i64 s.e, .int .i64 s.l, .int .i64 s.t, .bool s.a] 28)).alloc (.cells #[.int .i64 4, .int .i64 on, .bool oo] 52)).below hb)
  have HR3 := hide (((HR.out.alloc (.cells #[.int .i64 s.e, .int .i64 s.l, .int .i64 s.t, .bool s.a] 28)).alloc (.cells #[.int .i64 4, .int .i64 on, .bool oo] 52)).below hb)
  have C3 : Blk w3 (w.heap.size + 1) 52 #[.int .i64 4, .int .i64 on, .bool oo] := Blk.below (by simpa using Blk.new (w.alloc (.cells #[.int .i64 s.e, .int .i64 s.l, .int .i64 s.t, .bool s.a] 28)) 52 #[.int .i64 4, .int .i64 on, .bool oo]) hb (by simp)
  have HN3 := hide hm
  have HVL : Hid (∀ g, v.ownBlock = some g → g < w.heap.size) := fun g hg => (HR.out.2.lt g hg).2
  have hz3 : w.heap.size + 2 ≤ w3.heap.size := by simpa using hb.size
  obtain ⟨p0, p1, p2, p3⟩ := C3.three
  obtain ⟨c0, c1, c2, c4, c5, c6, c7, f5, f6, f7, hlt, f4⟩ := HR3.out.open
  have c3 : w3.cell? ⟨b, 3, none⟩ = some (.bool s.a) := HR3.out.1.cell 3
  have HC3 := hide C3
  have ho1 := hm.lt1
  have ho2 := hm.lt2
  clear hm hb C3 c4 c5 c6 c7 f5 f6 f7 f4
  go_wp2_with fail
  clear c0 c1 c2 c3
  refine (add_any _ bo lo s _ on (HN3.out.alloc (.cells #[.int .i64 s.e, .int .i64 s.l, .int .i64 s.t, .bool s.a, .slice none 0 0, .int .i64 0, .bool false, .bool false] rT)) GI.new (by simp) (by simp)).mono ?_
  rintro e w4 ⟨lv, rfl, ho, hm, hf⟩
  have HY3 : Hid (RR (w3.alloc (.cells #[.int .i64 s.e, .int .i64 s.l, .int .i64 s.t, .bool s.a, .slice none 0 0, .int .i64 0, .bool false, .bool false] rT)) w3.heap.size w3.heap.size (.slice none 0 0) [] s ⟨0, 0, 0, false, false⟩) := ⟨Blk.new w3 _ _, Own.nil _ _ _ _⟩
  have HY4 := hide (HY3.out.mfr (HN3.out.alloc _) hf)
  have HR4 := hide ((HR3.out.alloc _).mfr (HN3.out.alloc _) hf)
  have HM4 := hide ((HM3.out.alloc _).mfr hf (by omega) (by omega) (by omega) (by omega))
  have HB4 := hide ((HB3.out.alloc (Nat.le_trans hB5 HB3.out.size) (.cells #[.int .i64 s.e, .int .i64 s.l, .int .i64 s.t, .bool s.a, .slice none 0 0, .int .i64 0, .bool false, .bool false] rT)).trans (hf.away (B := B) (by omega) (by omega) (by simp; omega)))
  have C4 : Blk w4 (w.heap.size + 1) 52 #[.int .i64 4, .int .i64 on, .bool oo] := hf.blk (HC3.out.alloc _) (fun h9 => by rcases h9 with h9 | h9 <;> omega)
  have HN4 := hide hm
  have hz4 : w3.heap.size + 1 ≤ w4.heap.size := by simpa using hf.size
  obtain ⟨p0, p1, p2, p3⟩ := C4.three
  have HC4 := hide C4
  clear ho hm hf C4
  go_wp2_with fail
  refine (radd_any _ w3.heap.size w3.heap.size _ [] s _ on HY4.out GI.new HS.out (by simp) (by simp) (by omega)).mono ?_
  rintro e w5 ⟨uv, vy5, rfl, ho, hr, hf⟩
  have HR5 := hide (HR4.out.rfr HY4.out hf (by omega) (fun g hg => by simp [Value.ownBlock]))
  have HM5 := hide (HM4.out.rfr HY4.out hf)
  have HN5 := hide (HN4.out.rfr HY4.out hf)
  have HB5 := hide (HB4.out.trans (hf.away HY4.out (B := B) (by omega) (by omega) (by omega)))
  have C5 : Blk w5 (w.heap.size + 1) 52 #[.int .i64 4, .int .i64 on, .bool oo] := hf.blk HC4.out (fun h9 => by rcases h9 with h9 | h9; omega; simp [Value.ownBlock] at h9)
  have HY5 := hide hr
  have hz5 := hf.size
  obtain ⟨r1, hr1⟩ : ∃ r1, r1 = addR s ⟨0, 0, 0, false, false⟩ on := ⟨_, rfl⟩
  have HG5 := hide (GI.new.add s on)
  have HF5 := hide (addR_fr s ⟨0, 0, 0, false, false⟩ on (by simp))
  rw [← hr1] at HG5 HF5 HY5 HN5
  obtain ⟨p0, p1, p2, p3⟩ := C5.three
  clear ho hr hf C5 hr1
  cases oo
  · go_wp2_with fail
    obtain ⟨mo, hmo⟩ : ∃ mo, mo = r1.m := ⟨_, rfl⟩
    obtain ⟨Dy, hDy⟩ : ∃ Dy, Dy = [] ++ r1.ps := ⟨_, rfl⟩
    obtain ⟨vy, hvy⟩ : ∃ vy, vy = vy5 := ⟨_, rfl⟩
    obtain ⟨w7, hw7⟩ : ∃ w7, w7 = w5 := ⟨_, rfl⟩
    have HGo := HG5
    have HFo := hide (show mo.fr ≤ 1000 by rw [hmo]; have := HF5.out.1; simpa using this)
    have HY7 := HY5
    have HN7 := HN5
    have HM7 := HM5
    have HR7 := HR5
    have HB7 := HB5
    have hz7 := hz5
    rw [← hmo] at HGo HY7 HN7
    rw [← hDy] at HGo HY7
    rw [← hvy] at HY7
    rw [← hw7] at HY7 HN7 HM7 HR7 HB7 hz7 ⊢
    clear hmo hDy hvy hw7 p0 p1 p2 p3
    cases hyn : (yng m && yng mo)
    · have HYN := hide hyn
      clear hyn
      refine (join_no w7 bm lm bo lo s s m mo HM7.out HN7.out (by omega) HYN.out).mono ?_
      rintro e w8 ⟨rfl, rfl⟩
      go_wp2_with fail
      refine (rjoin_no w7 base b w3.heap.size w3.heap.size v vy D Dy s s m mo HR7.out HY7.out HG.out HGo.out HYN.out).mono ?_
      rintro e w9 ⟨rfl, rfl⟩
      have HR9' := HR7
      have HM9' := HM7
      have HN9' := HN7
      have HY9' := HY7
      have HB9' := HB7
      have HGJ := HG
      obtain ⟨q0, q1, q2, q4, q5, q6, q7, j5, j6, j7, jlt, j4⟩ := HY9'.out.open
      have hfd : ∀ w : World, (Instr.field 39 (.agg #[.int .i64 mo.n, .int .i64 mo.st, .int .i64 mo.fr, .bool mo.ps, .bool mo.cl]) 2).run Try.prog w = .ok (.int .i64 mo.fr) w := fun _ => by kernel_rfl
      clear q0 q1 q2 q4 q6 q7 j5 j6 j7 j4
      go_wp2_with fail
      go_region_with (go_at_call 13; refine (state_any _ bo lo s mo HN9'.out.drew).mono ?_; rintro e w10 ⟨rfl, hb10⟩; have q5 := (HY9'.out.drew.below hb10).open.2.2.2.2.1; have jlt := (HY9'.out.drew.below hb10).lt; simp only [stVal])
      all_goals
        have HM10 := hide (HM9'.out.drew.below hb10)
        have HR10 := hide (HR9'.out.drew.below hb10)
        have HB10 := hide (HB9'.out.drew.trans (hb10.mono (Nat.le_trans hB5 HB9'.out.size)))
        have HLN : Hid (Own w10 0 pT 3 (.slice none 0 0) ([] : List Inf).length (infs [])) := Own.nil _ _ _ _
        have HUN : Hid (Own w10 0 rI 3 (.slice none 0 0) ([] : List Inf).length (infs [])) := Own.nil _ _ _ _
        clear hb10 hfd q5
        obtain ⟨rm, hrm⟩ : ∃ rm, rm = m := ⟨_, rfl⟩
        have HGX := hide HGJ.out
        have HMX := hide HM10.out
        have HRX := hide HR10.out
        rw [← hrm] at HGX HMX HRX
        have HRM := hide hrm
        clear hrm
        go_wp2_with fail
        refine (state_any w10 bm lm s rm HMX.out).mono ?_
        rintro e w9 ⟨rfl, hb9⟩
        have HM9 := hide (HMX.out.below hb9)
        have HR9 := hide (HRX.out.below hb9)
        have HB9 := hide (HB10.out.trans (hb9.mono (Nat.le_trans hB5 HB10.out.size)))
        have HL9 := hide (HLN.out.below hb9)
        have HU9 := hide (HUN.out.below hb9)
        clear hb9
        have hgn := HGX.out.n
        have HST := hide HGX.out.stg
        simp only [stVal]
        obtain ⟨rA, rc, hrv, hrc⟩ := HR9.out.form
        obtain ⟨c0, c1, c2, c4, c5, c6, c7, f5, f6, f7, hlt, f4⟩ := HR9.out.open
        rw [hrv] at c4
        have HSV : Hid (∀ (o : Obj) (n : Nat), Sl ((w9.alloc o).drewN n) ((w9.alloc o).drewN n).heap.size (.slice rA D.length rc) 3 D.length (infs D)) := fun o n => by rw [← hrv]; exact ((HR9.out.2.alloc o).drewN n).sl
        try simp only [List.length_append] at HSV
        rw [hgn]
        clear hgn f5 f6 f7 f4 c0 c1 c2
        go_wp2_with fail
        go_quiet (first
          | (go_at_call 29; refine Calls.quiet_of (same10 _ _ _ _ _ _ ((HL9.out.alloc _).drewN _).sl ((HU9.out.alloc _).drewN _).sl))
          | (go_at_call 30; refine Calls.quiet_of_same ((refStage _ D _ _ _ (HSV.out _ _) (by simp)).mono fun _ _ h => ⟨by rw [h.1, HST.out], h.2.symm⟩)))
        clear c4 c5 c6 c7
        go_wp2_with fail
        go_ret
        refine ⟨rfl, _, _, rm, (HM9.out.alloc _).drewN _, (HR9.out.alloc _).drewN _, HGX.out, ?_, ?_, (HB9.out.alloc (Nat.le_trans hB5 HB9.out.size) _).drewN _⟩
        · omega
        · rw [HRM.out]; omega
    · have hyab : yng m = true ∧ yng mo = true := by simpa using hyn
      have HYa := hide hyab.1
      have HYb := hide hyab.2
      clear hyn hyab
      refine (join_yes w7 bm lm bo lo s s m mo HM7.out HN7.out (by omega) HYa.out HYb.out HG.out.f0 (by omega) HGo.out.f0 (by have := HFo.out; omega)).mono ?_
      rintro e w8 ⟨rfl, hm, hf⟩
      have HM8 := hide hm
      have HN8 := hide (HN7.out.fr hf (fun (h9 : _ = _) => by omega) (fun (h9 : _ = _) => by omega))
      have HR8 := hide (HR7.out.fr hf (fun h9 => HR7.out.1.apart HM7.out.1 (by decide) h9) (fun g hg h9 => by rw [h9] at hg; exact (HR7.out.2.ne HM7.out.1 (by decide)) hg))
      have HY8 := hide (HY7.out.fr hf (fun h9 => HY7.out.1.apart HM7.out.1 (by decide) h9) (fun g hg h9 => by rw [h9] at hg; exact (HY7.out.2.ne HM7.out.1 (by decide)) hg))
      have HB8 := hide (HB7.out.trans (hf.below (B := B) (Nat.le_trans hB5 HB7.out.size) (fun k hk (h9 : _ = _) => by omega)))
      have HGJ := hide (HG.out.joined HYa.out mo.fr HGo.out.f0)
      clear hm hf
      go_wp2_with fail
      refine (rjoin_yes w8 base b w3.heap.size w3.heap.size v vy D Dy s s m mo HR8.out HY8.out HG.out HGo.out HYa.out HYb.out (by omega) (by have := HFo.out; omega) (by omega)).mono ?_
      rintro e w9 ⟨rfl, hr, hf⟩
      have HR9' := hide hr
      have HM9' := hide (HM8.out.rfr HR8.out hf)
      have HN9' := hide (HN8.out.rfr HR8.out hf)
      have HY9' := hide (HY8.out.rfr HR8.out hf (by omega) (fun g hg hg' => by have h7 := (HY8.out.2.lt g hg).1; have h8 := HVL.out g hg'; omega))
      have HB9' := hide (HB8.out.trans (hf.away HR8.out (B := B) (by omega) (by omega) (Nat.le_trans hB5 HB8.out.size)))
      clear hr hf
      obtain ⟨q0, q1, q2, q4, q5, q6, q7, j5, j6, j7, jlt, j4⟩ := HY9'.out.open
      have hfd : ∀ w : World, (Instr.field 39 (.agg #[.int .i64 mo.n, .int .i64 mo.st, .int .i64 mo.fr, .bool mo.ps, .bool mo.cl]) 2).run Try.prog w = .ok (.int .i64 mo.fr) w := fun _ => by kernel_rfl
      clear q0 q1 q2 q4 q6 q7 j5 j6 j7 j4
      go_wp2_with fail
      go_region_with (go_at_call 13; refine (state_any _ bo lo s mo HN9'.out.drew).mono ?_; rintro e w10 ⟨rfl, hb10⟩; have q5 := (HY9'.out.drew.below hb10).open.2.2.2.2.1; have jlt := (HY9'.out.drew.below hb10).lt; simp only [stVal])
      all_goals
        have HM10 := hide (HM9'.out.drew.below hb10)
        have HR10 := hide (HR9'.out.drew.below hb10)
        have HB10 := hide (HB9'.out.drew.trans (hb10.mono (Nat.le_trans hB5 HB9'.out.size)))
        have HLN : Hid (Own w10 0 pT 3 (.slice none 0 0) ([] : List Inf).length (infs [])) := Own.nil _ _ _ _
        have HUN : Hid (Own w10 0 rI 3 (.slice none 0 0) ([] : List Inf).length (infs [])) := Own.nil _ _ _ _
        clear hb10 hfd q5
        obtain ⟨rm, hrm⟩ : ∃ rm, rm = { m with fr := m.fr + mo.fr } := ⟨_, rfl⟩
        have HGX := hide HGJ.out
        have HMX := hide HM10.out
        have HRX := hide HR10.out
        rw [← hrm] at HGX HMX HRX
        have HRM := hide hrm
        clear hrm
        go_wp2_with fail
        refine (state_any w10 bm lm s rm HMX.out).mono ?_
        rintro e w9 ⟨rfl, hb9⟩
        have HM9 := hide (HMX.out.below hb9)
        have HR9 := hide (HRX.out.below hb9)
        have HB9 := hide (HB10.out.trans (hb9.mono (Nat.le_trans hB5 HB10.out.size)))
        have HL9 := hide (HLN.out.below hb9)
        have HU9 := hide (HUN.out.below hb9)
        clear hb9
        have hgn := HGX.out.n
        have HST := hide HGX.out.stg
        simp only [stVal]
        obtain ⟨rA, rc, hrv, hrc⟩ := HR9.out.form
        obtain ⟨c0, c1, c2, c4, c5, c6, c7, f5, f6, f7, hlt, f4⟩ := HR9.out.open
        rw [hrv] at c4
        have HSV : Hid (∀ (o : Obj) (n : Nat), Sl ((w9.alloc o).drewN n) ((w9.alloc o).drewN n).heap.size (.slice rA D.length rc) 3 D.length (infs D)) := fun o n => by rw [← hrv]; exact ((HR9.out.2.alloc o).drewN n).sl
        try simp only [List.length_append] at HSV
        rw [hgn]
        clear hgn f5 f6 f7 f4 c0 c1 c2
        go_wp2_with fail
        go_quiet (first
          | (go_at_call 29; refine Calls.quiet_of (same10 _ _ _ _ _ _ ((HL9.out.alloc _).drewN _).sl ((HU9.out.alloc _).drewN _).sl))
          | (go_at_call 30; refine Calls.quiet_of_same ((refStage _ D _ _ _ (HSV.out _ _) (by simp)).mono fun _ _ h => ⟨by rw [h.1, HST.out], h.2.symm⟩)))
        clear c4 c5 c6 c7
        go_wp2_with fail
        go_ret
        refine ⟨rfl, _, _, rm, (HM9.out.alloc _).drewN _, (HR9.out.alloc _).drewN _, HGX.out, ?_, ?_, (HB9.out.alloc (Nat.le_trans hB5 HB9.out.size) _).drewN _⟩
        · omega
        · rw [HRM.out]; have := HFo.out; show m.fr + mo.fr ≤ _; omega
  · go_wp2_with fail
    clear p0 p1 p2 p3
    refine (pass_any _ bo lo s _ HN5.out HG5.out (by have h7 := HG5.out.n; have h8 := HF5.out.2; rw [List.nil_append] at h7; omega)).mono ?_
    rintro e w6 ⟨lv2, rfl, ho, hm, hf⟩
    have HY6 := hide (HY5.out.mfr HN5.out hf)
    have HR6 := hide (HR5.out.mfr HN5.out hf)
    have HM6 := hide (HM5.out.mfr hf (by omega) (by omega) (by omega) (by omega))
    have HB6 := hide (HB5.out.trans (hf.away (B := B) (by omega) (by omega) (Nat.le_trans hB5 HB5.out.size)))
    have HN6 := hide hm
    have hz6 := hf.size
    clear ho hm hf
    go_wp2_with fail
    refine (rpass_any _ w3.heap.size w3.heap.size _ _ s _ HY6.out HG5.out HS.out (by have h8 := HF5.out.2; rw [List.nil_append]; omega) (by omega)).mono ?_
    rintro e w7 ⟨uv2, vy, rfl, ho, hr, hf⟩
    have HR7 := hide (HR6.out.rfr HY6.out hf (by omega) (fun g hg hg' => by have h7 := (HY6.out.2.lt g hg').1; have h8 := HVL.out g hg; omega))
    have HM7 := hide (HM6.out.rfr HY6.out hf)
    have HN7 := hide (HN6.out.rfr HY6.out hf)
    have HB7 := hide (HB6.out.trans (hf.away HY6.out (B := B) (by omega) (by omega) (Nat.le_trans hB5 HB6.out.size)))
    have HY7 := hide hr
    have hz7 := hf.size
    have HGo := hide (HG5.out.pass s)
    obtain ⟨mo, hmo⟩ : ∃ mo, mo = (passR s r1.m).m := ⟨_, rfl⟩
    obtain ⟨Dy, hDy⟩ : ∃ Dy, Dy = [] ++ r1.ps ++ (passR s r1.m).ps := ⟨_, rfl⟩
    have HFo := hide (show mo.fr ≤ 1000 by rw [hmo]; have h7 := HF5.out.1; have h8 := (passR_fr s r1.m HG5.out.f0).1; simp at h7; omega)
    rw [← hmo] at HGo HY7 HN7
    rw [← hDy] at HGo HY7
    clear ho hr hf hmo hDy
    go_wp2_with fail
    cases hyn : (yng m && yng mo)
    · have HYN := hide hyn
      clear hyn
      refine (join_no w7 bm lm bo lo s s m mo HM7.out HN7.out (by omega) HYN.out).mono ?_
      rintro e w8 ⟨rfl, rfl⟩
      go_wp2_with fail
      refine (rjoin_no w7 base b w3.heap.size w3.heap.size v vy D Dy s s m mo HR7.out HY7.out HG.out HGo.out HYN.out).mono ?_
      rintro e w9 ⟨rfl, rfl⟩
      have HR9' := HR7
      have HM9' := HM7
      have HN9' := HN7
      have HY9' := HY7
      have HB9' := HB7
      have HGJ := HG
      obtain ⟨q0, q1, q2, q4, q5, q6, q7, j5, j6, j7, jlt, j4⟩ := HY9'.out.open
      have hfd : ∀ w : World, (Instr.field 39 (.agg #[.int .i64 mo.n, .int .i64 mo.st, .int .i64 mo.fr, .bool mo.ps, .bool mo.cl]) 2).run Try.prog w = .ok (.int .i64 mo.fr) w := fun _ => by kernel_rfl
      clear q0 q1 q2 q4 q6 q7 j5 j6 j7 j4
      go_wp2_with fail
      go_region_with (go_at_call 13; refine (state_any _ bo lo s mo HN9'.out.drew).mono ?_; rintro e w10 ⟨rfl, hb10⟩; have q5 := (HY9'.out.drew.below hb10).open.2.2.2.2.1; have jlt := (HY9'.out.drew.below hb10).lt; simp only [stVal])
      all_goals
        have HM10 := hide (HM9'.out.drew.below hb10)
        have HR10 := hide (HR9'.out.drew.below hb10)
        have HB10 := hide (HB9'.out.drew.trans (hb10.mono (Nat.le_trans hB5 HB9'.out.size)))
        have HLN : Hid (Own w10 0 pT 3 (.slice none 0 0) ([] : List Inf).length (infs [])) := Own.nil _ _ _ _
        have HUN : Hid (Own w10 0 rI 3 (.slice none 0 0) ([] : List Inf).length (infs [])) := Own.nil _ _ _ _
        clear hb10 hfd q5
        obtain ⟨rm, hrm⟩ : ∃ rm, rm = m := ⟨_, rfl⟩
        have HGX := hide HGJ.out
        have HMX := hide HM10.out
        have HRX := hide HR10.out
        rw [← hrm] at HGX HMX HRX
        have HRM := hide hrm
        clear hrm
        go_wp2_with fail
        refine (state_any w10 bm lm s rm HMX.out).mono ?_
        rintro e w9 ⟨rfl, hb9⟩
        have HM9 := hide (HMX.out.below hb9)
        have HR9 := hide (HRX.out.below hb9)
        have HB9 := hide (HB10.out.trans (hb9.mono (Nat.le_trans hB5 HB10.out.size)))
        have HL9 := hide (HLN.out.below hb9)
        have HU9 := hide (HUN.out.below hb9)
        clear hb9
        have hgn := HGX.out.n
        have HST := hide HGX.out.stg
        simp only [stVal]
        obtain ⟨rA, rc, hrv, hrc⟩ := HR9.out.form
        obtain ⟨c0, c1, c2, c4, c5, c6, c7, f5, f6, f7, hlt, f4⟩ := HR9.out.open
        rw [hrv] at c4
        have HSV : Hid (∀ (o : Obj) (n : Nat), Sl ((w9.alloc o).drewN n) ((w9.alloc o).drewN n).heap.size (.slice rA D.length rc) 3 D.length (infs D)) := fun o n => by rw [← hrv]; exact ((HR9.out.2.alloc o).drewN n).sl
        try simp only [List.length_append] at HSV
        rw [hgn]
        clear hgn f5 f6 f7 f4 c0 c1 c2
        go_wp2_with fail
        go_quiet (first
          | (go_at_call 29; refine Calls.quiet_of (same10 _ _ _ _ _ _ ((HL9.out.alloc _).drewN _).sl ((HU9.out.alloc _).drewN _).sl))
          | (go_at_call 30; refine Calls.quiet_of_same ((refStage _ D _ _ _ (HSV.out _ _) (by simp)).mono fun _ _ h => ⟨by rw [h.1, HST.out], h.2.symm⟩)))
        clear c4 c5 c6 c7
        go_wp2_with fail
        go_ret
        refine ⟨rfl, _, _, rm, (HM9.out.alloc _).drewN _, (HR9.out.alloc _).drewN _, HGX.out, ?_, ?_, (HB9.out.alloc (Nat.le_trans hB5 HB9.out.size) _).drewN _⟩
        · omega
        · rw [HRM.out]; omega
    · have hyab : yng m = true ∧ yng mo = true := by simpa using hyn
      have HYa := hide hyab.1
      have HYb := hide hyab.2
      clear hyn hyab
      refine (join_yes w7 bm lm bo lo s s m mo HM7.out HN7.out (by omega) HYa.out HYb.out HG.out.f0 (by omega) HGo.out.f0 (by have := HFo.out; omega)).mono ?_
      rintro e w8 ⟨rfl, hm, hf⟩
      have HM8 := hide hm
      have HN8 := hide (HN7.out.fr hf (fun (h9 : _ = _) => by omega) (fun (h9 : _ = _) => by omega))
      have HR8 := hide (HR7.out.fr hf (fun h9 => HR7.out.1.apart HM7.out.1 (by decide) h9) (fun g hg h9 => by rw [h9] at hg; exact (HR7.out.2.ne HM7.out.1 (by decide)) hg))
      have HY8 := hide (HY7.out.fr hf (fun h9 => HY7.out.1.apart HM7.out.1 (by decide) h9) (fun g hg h9 => by rw [h9] at hg; exact (HY7.out.2.ne HM7.out.1 (by decide)) hg))
      have HB8 := hide (HB7.out.trans (hf.below (B := B) (Nat.le_trans hB5 HB7.out.size) (fun k hk (h9 : _ = _) => by omega)))
      have HGJ := hide (HG.out.joined HYa.out mo.fr HGo.out.f0)
      clear hm hf
      go_wp2_with fail
      refine (rjoin_yes w8 base b w3.heap.size w3.heap.size v vy D Dy s s m mo HR8.out HY8.out HG.out HGo.out HYa.out HYb.out (by omega) (by have := HFo.out; omega) (by omega)).mono ?_
      rintro e w9 ⟨rfl, hr, hf⟩
      have HR9' := hide hr
      have HM9' := hide (HM8.out.rfr HR8.out hf)
      have HN9' := hide (HN8.out.rfr HR8.out hf)
      have HY9' := hide (HY8.out.rfr HR8.out hf (by omega) (fun g hg hg' => by have h7 := (HY8.out.2.lt g hg).1; have h8 := HVL.out g hg'; omega))
      have HB9' := hide (HB8.out.trans (hf.away HR8.out (B := B) (by omega) (by omega) (Nat.le_trans hB5 HB8.out.size)))
      clear hr hf
      obtain ⟨q0, q1, q2, q4, q5, q6, q7, j5, j6, j7, jlt, j4⟩ := HY9'.out.open
      have hfd : ∀ w : World, (Instr.field 39 (.agg #[.int .i64 mo.n, .int .i64 mo.st, .int .i64 mo.fr, .bool mo.ps, .bool mo.cl]) 2).run Try.prog w = .ok (.int .i64 mo.fr) w := fun _ => by kernel_rfl
      clear q0 q1 q2 q4 q6 q7 j5 j6 j7 j4
      go_wp2_with fail
      go_region_with (go_at_call 13; refine (state_any _ bo lo s mo HN9'.out.drew).mono ?_; rintro e w10 ⟨rfl, hb10⟩; have q5 := (HY9'.out.drew.below hb10).open.2.2.2.2.1; have jlt := (HY9'.out.drew.below hb10).lt; simp only [stVal])
      all_goals
        have HM10 := hide (HM9'.out.drew.below hb10)
        have HR10 := hide (HR9'.out.drew.below hb10)
        have HB10 := hide (HB9'.out.drew.trans (hb10.mono (Nat.le_trans hB5 HB9'.out.size)))
        have HLN : Hid (Own w10 0 pT 3 (.slice none 0 0) ([] : List Inf).length (infs [])) := Own.nil _ _ _ _
        have HUN : Hid (Own w10 0 rI 3 (.slice none 0 0) ([] : List Inf).length (infs [])) := Own.nil _ _ _ _
        clear hb10 hfd q5
        obtain ⟨rm, hrm⟩ : ∃ rm, rm = { m with fr := m.fr + mo.fr } := ⟨_, rfl⟩
        have HGX := hide HGJ.out
        have HMX := hide HM10.out
        have HRX := hide HR10.out
        rw [← hrm] at HGX HMX HRX
        have HRM := hide hrm
        clear hrm
        go_wp2_with fail
        refine (state_any w10 bm lm s rm HMX.out).mono ?_
        rintro e w9 ⟨rfl, hb9⟩
        have HM9 := hide (HMX.out.below hb9)
        have HR9 := hide (HRX.out.below hb9)
        have HB9 := hide (HB10.out.trans (hb9.mono (Nat.le_trans hB5 HB10.out.size)))
        have HL9 := hide (HLN.out.below hb9)
        have HU9 := hide (HUN.out.below hb9)
        clear hb9
        have hgn := HGX.out.n
        have HST := hide HGX.out.stg
        simp only [stVal]
        obtain ⟨rA, rc, hrv, hrc⟩ := HR9.out.form
        obtain ⟨c0, c1, c2, c4, c5, c6, c7, f5, f6, f7, hlt, f4⟩ := HR9.out.open
        rw [hrv] at c4
        have HSV : Hid (∀ (o : Obj) (n : Nat), Sl ((w9.alloc o).drewN n) ((w9.alloc o).drewN n).heap.size (.slice rA D.length rc) 3 D.length (infs D)) := fun o n => by rw [← hrv]; exact ((HR9.out.2.alloc o).drewN n).sl
        try simp only [List.length_append] at HSV
        rw [hgn]
        clear hgn f5 f6 f7 f4 c0 c1 c2
        go_wp2_with fail
        go_quiet (first
          | (go_at_call 29; refine Calls.quiet_of (same10 _ _ _ _ _ _ ((HL9.out.alloc _).drewN _).sl ((HU9.out.alloc _).drewN _).sl))
          | (go_at_call 30; refine Calls.quiet_of_same ((refStage _ D _ _ _ (HSV.out _ _) (by simp)).mono fun _ _ h => ⟨by rw [h.1, HST.out], h.2.symm⟩)))
        clear c4 c5 c6 c7
        go_wp2_with fail
        go_ret
        refine ⟨rfl, _, _, rm, (HM9.out.alloc _).drewN _, (HR9.out.alloc _).drewN _, HGX.out, ?_, ?_, (HB9.out.alloc (Nat.le_trans hB5 HB9.out.size) _).drewN _⟩
        · omega
        · rw [HRM.out]; have := HFo.out; show m.fr + mo.fr ≤ _; omega

end Go.Proofs.Ytghkkekebjhjlaa
