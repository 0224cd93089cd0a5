/- The law's step. -/
import Derived.Test.YtghkkekebjhjlaaLaw10f
namespace Go.Proofs.Ytghkkekebjhjlaa
open Go.RowKit
set_option linter.unusedVariables false
set_option linter.unusedSimpArgs false

/-- a step was alike -/
def SPost (w : World) (B bm lm base b : Nat) (s : Spc) (D : List Inf) (m : Mst) (e : Ending) (w' : World) : Prop :=
  e = .returned (.bool true) ∧ ∃ v' D' m', MR w' bm lm s m' ∧ RR w' base b v' D' s m' ∧ GI D' m' ∧ D'.length ≤ D.length + 1 ∧ m'.fr ≤ m.fr + 1000 ∧ Below B w w'

set_option maxHeartbeats 16000000 in
set_option maxRecDepth 100000 in
theorem step_1 (w : World) (B bm lm base b : Nat) (v : Value) (D : List Inf) (s : Spc) (m : Mst) (on : Int) (oo : Bool) (hM : MR w bm lm s m) (hR : RR w base b v D s m) (hG : GI D m) (hS : s.ok = true)
    (hfr : m.fr ≤ 4611686018427387904) (hD : D.length ≤ 5864062014634) (hB1 : B ≤ bm) (hB2 : B ≤ lm) (hB3 : B ≤ base) (hB4 : B ≤ b) (hB5 : B ≤ w.heap.size) (hB6 : base ≤ w.heap.size) :
    Calls Try.prog 17 #[.pointer (some ⟨bm, 0, none⟩), .pointer (some ⟨b, 0, none⟩), s.val, .agg #[.int .i64 1, .int .i64 on, .bool oo]] w (SPost w B bm lm base b s D m) := by
  have HM := hide hM
  have HR := hide hR
  have HG := hide hG
  have HS := hide hS
  have hlm1 := hM.lt1
  have hlm2 := hM.lt2
  clear hM hR hG hS
  simp only [Spc.val]
  have HRS := hide (And.intro (HG.out.add s on) (addR_fr s m on HG.out.f0))
  obtain ⟨r, hr⟩ : ∃ r, r = addR s m on := ⟨_, rfl⟩
  have HA1 := hide (add_any ((w.alloc (.cells #[.int .i64 s.e, .int .i64 s.l, .int .i64 s.t, .bool s.a] 28)).alloc (.cells #[.int .i64 1, .int .i64 on, .bool oo] 52)) bm lm s m on ((HM.out.alloc _).alloc _) HG.out hfr (by have := HG.out.n; omega))
  have HA2 := hide (fun (w2 : World) (h2 : RR w2 base b v D s m) (h3 : base ≤ w2.heap.size) => radd_any w2 base b v D s m on h2 HG.out HS.out hD hfr h3)
  rw [← hr] at HA1 HA2 HRS
  clear hr
  go_enter Try.func17, Try.ntmps17
  go_wp2_with fail
  refine HA1.out.mono ?_
  rintro e w2 ⟨lv, rfl, ho, hm, hf⟩
  have HR2 := hide (((HR.out.alloc (.cells #[.int .i64 s.e, .int .i64 s.l, .int .i64 s.t, .bool s.a] 28)).alloc (.cells #[.int .i64 1, .int .i64 on, .bool oo] 52)).fr hf (fun h9 => by rcases h9 with h9 | h9; exact HR.out.1.apart HM.out.1 (by decide) h9; exact HR.out.1.apart HM.out.2 (by decide) h9) (fun g hg hg' => by
    rcases hg' with h9 | h9
    · rw [h9] at hg; exact (HR.out.2.ne HM.out.1 (by decide)) hg
    · rw [h9] at hg; exact (HR.out.2.ne HM.out.2 (by decide)) hg))
  have HB2 := hide (Below.trans (((Below.refl B w).alloc hB5 (.cells #[.int .i64 s.e, .int .i64 s.l, .int .i64 s.t, .bool s.a] 28)).alloc (by simp; omega) (.cells #[.int .i64 1, .int .i64 on, .bool oo] 52)) (hf.away (B := B) (by omega) (by omega) (by simp; omega)))
  have HM2 := hide hm
  have HL2 := hide ho
  have hz2 : w.heap.size ≤ w2.heap.size := by have := hf.size; simp at this; omega
  have C2 : Blk w2 (w.heap.size + 1) 52 #[.int .i64 1, .int .i64 on, .bool oo] := hf.blk (by simpa using Blk.new (w.alloc (.cells #[.int .i64 s.e, .int .i64 s.l, .int .i64 s.t, .bool s.a] 28)) 52 #[.int .i64 1, .int .i64 on, .bool oo]) (fun h9 => by have := HM.out.lt1; have := HM.out.lt2; rcases h9 with h9 | h9 <;> omega)
  obtain ⟨p0, p1, p2, p3⟩ := C2.three
  clear ho hm hf C2
  go_wp2_with fail
  refine (HA2.out w2 HR2.out (by omega)).mono ?_
  rintro e w3 ⟨uv, v3, rfl, ho, hr, hf⟩
  have HM3 := hide (HM2.out.fr hf (fun h9 => by rcases h9 with h9 | h9; exact HR2.out.1.apart HM2.out.1 (by decide) h9.symm; exact (HR2.out.2.ne HM2.out.1 (by decide)) h9) (fun h9 => by rcases h9 with h9 | h9; exact HR2.out.1.apart HM2.out.2 (by decide) h9.symm; exact (HR2.out.2.ne HM2.out.2 (by decide)) h9))
  have HL3 := hide (HL2.out.fr hf (fun g hg h9 => by rcases h9 with h9 | h9; exact (HL2.out.ne HR2.out.1 (by decide)) (h9 ▸ hg); obtain ⟨cs1, t1⟩ := HL2.out.typed g hg; obtain ⟨cs2, t2⟩ := HR2.out.2.typed g h9; exact t1.apart t2 (by decide) rfl))
  have HB3 := hide (HB2.out.trans (hf.below (B := B) (Nat.le_trans hB5 HB2.out.size) (fun k hk h9 => by rcases h9 with h9 | h9; omega; have := (HR2.out.2.lt k h9).1; omega)))
  have HR3 := hide hr
  have HU3 := hide ho
  have hz3 := hf.size
  clear ho hr hf p0 p1 p2 p3
  obtain ⟨rm, hrm⟩ : ∃ rm, rm = r.m := ⟨_, rfl⟩
  have HGX := hide HRS.out.1
  have HMX := hide HM3.out
  have HRX := hide HR3.out
  rw [← hrm] at HGX HMX HRX
  have HRM := hide hrm
  clear hrm
  go_wp2_with fail
  refine (state_any w3 bm lm s rm HMX.out).mono ?_
  rintro e w9 ⟨rfl, hb9⟩
  have HM9 := hide (HMX.out.below hb9)
  have HR9 := hide (HRX.out.below hb9)
  have HB9 := hide (HB3.out.trans (hb9.mono (Nat.le_trans hB5 HB3.out.size)))
  have HL9 := hide (HL3.out.below hb9)
  have HU9 := hide (HU3.out.below hb9)
  clear hb9
  have hgn := HGX.out.n
  have HST := hide HGX.out.stg
  simp only [stVal]
  obtain ⟨rA, rc, hrv, hrc⟩ := HR9.out.form
  obtain ⟨c0, c1, c2, c4, c5, c6, c7, f5, f6, f7, hlt, f4⟩ := HR9.out.open
  rw [hrv] at c4
  have HSV : Hid (∀ (o : Obj) (n : Nat), Sl ((w9.alloc o).drewN n) ((w9.alloc o).drewN n).heap.size (.slice rA (D ++ r.ps).length rc) 3 (D ++ r.ps).length (infs (D ++ r.ps))) := fun o n => by rw [← hrv]; exact ((HR9.out.2.alloc o).drewN n).sl
  try simp only [List.length_append] at HSV
  rw [hgn]
  clear hgn f5 f6 f7 f4 c0 c1 c2
  go_wp2_with fail
  go_quiet (first
    | (go_at_call 29; refine Calls.quiet_of (same10 _ _ _ _ _ _ ((HL9.out.alloc _).drewN _).sl ((HU9.out.alloc _).drewN _).sl))
    | (go_at_call 30; refine Calls.quiet_of_same ((refStage _ (D ++ r.ps) _ _ _ (HSV.out _ _) (by simp)).mono fun _ _ h => ⟨by rw [h.1, HST.out], h.2.symm⟩)))
  clear c4 c5 c6 c7
  go_wp2_with fail
  go_ret
  refine ⟨rfl, _, _, rm, (HM9.out.alloc _).drewN _, (HR9.out.alloc _).drewN _, HGX.out, ?_, ?_, (HB9.out.alloc (Nat.le_trans hB5 HB9.out.size) _).drewN _⟩
  · rw [List.length_append]; have := HRS.out.2.2; omega
  · rw [HRM.out]; have := HRS.out.2.1; omega
set_option maxHeartbeats 16000000 in
set_option maxRecDepth 100000 in
theorem step_2 (w : World) (B bm lm base b : Nat) (v : Value) (D : List Inf) (s : Spc) (m : Mst) (on : Int) (oo : Bool) (hM : MR w bm lm s m) (hR : RR w base b v D s m) (hG : GI D m) (hS : s.ok = true)
    (hfr : m.fr ≤ 4611686018427387904) (hD : D.length ≤ 5864062014634) (hB1 : B ≤ bm) (hB2 : B ≤ lm) (hB3 : B ≤ base) (hB4 : B ≤ b) (hB5 : B ≤ w.heap.size) (hB6 : base ≤ w.heap.size) :
    Calls Try.prog 17 #[.pointer (some ⟨bm, 0, none⟩), .pointer (some ⟨b, 0, none⟩), s.val, .agg #[.int .i64 2, .int .i64 on, .bool oo]] w (SPost w B bm lm base b s D m) := by
  have HM := hide hM
  have HR := hide hR
  have HG := hide hG
  have HS := hide hS
  have hlm1 := hM.lt1
  have hlm2 := hM.lt2
  clear hM hR hG hS
  simp only [Spc.val]
  have HRS := hide (And.intro (HG.out.pass s) (passR_fr s m HG.out.f0))
  obtain ⟨r, hr⟩ : ∃ r, r = passR s m := ⟨_, rfl⟩
  have HA1 := hide (pass_any ((w.alloc (.cells #[.int .i64 s.e, .int .i64 s.l, .int .i64 s.t, .bool s.a] 28)).alloc (.cells #[.int .i64 2, .int .i64 on, .bool oo] 52)) bm lm s m ((HM.out.alloc _).alloc _) HG.out (by have := HG.out.n; omega))
  have HA2 := hide (fun (w2 : World) (h2 : RR w2 base b v D s m) (h3 : base ≤ w2.heap.size) => rpass_any w2 base b v D s m h2 HG.out HS.out hD h3)
  rw [← hr] at HA1 HA2 HRS
  clear hr
  go_enter Try.func17, Try.ntmps17
  go_wp2_with fail
  refine HA1.out.mono ?_
  rintro e w2 ⟨lv, rfl, ho, hm, hf⟩
  have HR2 := hide (((HR.out.alloc (.cells #[.int .i64 s.e, .int .i64 s.l, .int .i64 s.t, .bool s.a] 28)).alloc (.cells #[.int .i64 2, .int .i64 on, .bool oo] 52)).fr hf (fun h9 => by rcases h9 with h9 | h9; exact HR.out.1.apart HM.out.1 (by decide) h9; exact HR.out.1.apart HM.out.2 (by decide) h9) (fun g hg hg' => by
    rcases hg' with h9 | h9
    · rw [h9] at hg; exact (HR.out.2.ne HM.out.1 (by decide)) hg
    · rw [h9] at hg; exact (HR.out.2.ne HM.out.2 (by decide)) hg))
  have HB2 := hide (Below.trans (((Below.refl B w).alloc hB5 (.cells #[.int .i64 s.e, .int .i64 s.l, .int .i64 s.t, .bool s.a] 28)).alloc (by simp; omega) (.cells #[.int .i64 2, .int .i64 on, .bool oo] 52)) (hf.away (B := B) (by omega) (by omega) (by simp; omega)))
  have HM2 := hide hm
  have HL2 := hide ho
  have hz2 : w.heap.size ≤ w2.heap.size := by have := hf.size; simp at this; omega
  have C2 : Blk w2 (w.heap.size + 1) 52 #[.int .i64 2, .int .i64 on, .bool oo] := hf.blk (by simpa using Blk.new (w.alloc (.cells #[.int .i64 s.e, .int .i64 s.l, .int .i64 s.t, .bool s.a] 28)) 52 #[.int .i64 2, .int .i64 on, .bool oo]) (fun h9 => by have := HM.out.lt1; have := HM.out.lt2; rcases h9 with h9 | h9 <;> omega)
  obtain ⟨p0, p1, p2, p3⟩ := C2.three
  clear ho hm hf C2
  go_wp2_with fail
  refine (HA2.out w2 HR2.out (by omega)).mono ?_
  rintro e w3 ⟨uv, v3, rfl, ho, hr, hf⟩
  have HM3 := hide (HM2.out.fr hf (fun h9 => by rcases h9 with h9 | h9; exact HR2.out.1.apart HM2.out.1 (by decide) h9.symm; exact (HR2.out.2.ne HM2.out.1 (by decide)) h9) (fun h9 => by rcases h9 with h9 | h9; exact HR2.out.1.apart HM2.out.2 (by decide) h9.symm; exact (HR2.out.2.ne HM2.out.2 (by decide)) h9))
  have HL3 := hide (HL2.out.fr hf (fun g hg h9 => by rcases h9 with h9 | h9; exact (HL2.out.ne HR2.out.1 (by decide)) (h9 ▸ hg); obtain ⟨cs1, t1⟩ := HL2.out.typed g hg; obtain ⟨cs2, t2⟩ := HR2.out.2.typed g h9; exact t1.apart t2 (by decide) rfl))
  have HB3 := hide (HB2.out.trans (hf.below (B := B) (Nat.le_trans hB5 HB2.out.size) (fun k hk h9 => by rcases h9 with h9 | h9; omega; have := (HR2.out.2.lt k h9).1; omega)))
  have HR3 := hide hr
  have HU3 := hide ho
  have hz3 := hf.size
  clear ho hr hf p0 p1 p2 p3
  obtain ⟨rm, hrm⟩ : ∃ rm, rm = r.m := ⟨_, rfl⟩
  have HGX := hide HRS.out.1
  have HMX := hide HM3.out
  have HRX := hide HR3.out
  rw [← hrm] at HGX HMX HRX
  have HRM := hide hrm
  clear hrm
  go_wp2_with fail
  refine (state_any w3 bm lm s rm HMX.out).mono ?_
  rintro e w9 ⟨rfl, hb9⟩
  have HM9 := hide (HMX.out.below hb9)
  have HR9 := hide (HRX.out.below hb9)
  have HB9 := hide (HB3.out.trans (hb9.mono (Nat.le_trans hB5 HB3.out.size)))
  have HL9 := hide (HL3.out.below hb9)
  have HU9 := hide (HU3.out.below hb9)
  clear hb9
  have hgn := HGX.out.n
  have HST := hide HGX.out.stg
  simp only [stVal]
  obtain ⟨rA, rc, hrv, hrc⟩ := HR9.out.form
  obtain ⟨c0, c1, c2, c4, c5, c6, c7, f5, f6, f7, hlt, f4⟩ := HR9.out.open
  rw [hrv] at c4
  have HSV : Hid (∀ (o : Obj) (n : Nat), Sl ((w9.alloc o).drewN n) ((w9.alloc o).drewN n).heap.size (.slice rA (D ++ r.ps).length rc) 3 (D ++ r.ps).length (infs (D ++ r.ps))) := fun o n => by rw [← hrv]; exact ((HR9.out.2.alloc o).drewN n).sl
  try simp only [List.length_append] at HSV
  rw [hgn]
  clear hgn f5 f6 f7 f4 c0 c1 c2
  go_wp2_with fail
  go_quiet (first
    | (go_at_call 29; refine Calls.quiet_of (same10 _ _ _ _ _ _ ((HL9.out.alloc _).drewN _).sl ((HU9.out.alloc _).drewN _).sl))
    | (go_at_call 30; refine Calls.quiet_of_same ((refStage _ (D ++ r.ps) _ _ _ (HSV.out _ _) (by simp)).mono fun _ _ h => ⟨by rw [h.1, HST.out], h.2.symm⟩)))
  clear c4 c5 c6 c7
  go_wp2_with fail
  go_ret
  refine ⟨rfl, _, _, rm, (HM9.out.alloc _).drewN _, (HR9.out.alloc _).drewN _, HGX.out, ?_, ?_, (HB9.out.alloc (Nat.le_trans hB5 HB9.out.size) _).drewN _⟩
  · rw [List.length_append]; have := HRS.out.2.2; omega
  · rw [HRM.out]; have := HRS.out.2.1; omega
set_option maxHeartbeats 16000000 in
set_option maxRecDepth 100000 in
theorem step_3 (w : World) (B bm lm base b : Nat) (v : Value) (D : List Inf) (s : Spc) (m : Mst) (on : Int) (oo : Bool) (hM : MR w bm lm s m) (hR : RR w base b v D s m) (hG : GI D m) (hS : s.ok = true)
    (hfr : m.fr ≤ 4611686018427387904) (hD : D.length ≤ 5864062014634) (hB1 : B ≤ bm) (hB2 : B ≤ lm) (hB3 : B ≤ base) (hB4 : B ≤ b) (hB5 : B ≤ w.heap.size) (hB6 : base ≤ w.heap.size) :
    Calls Try.prog 17 #[.pointer (some ⟨bm, 0, none⟩), .pointer (some ⟨b, 0, none⟩), s.val, .agg #[.int .i64 3, .int .i64 on, .bool oo]] w (SPost w B bm lm base b s D m) := by
  have HM := hide hM
  have HR := hide hR
  have HG := hide hG
  have HS := hide hS
  have hlm1 := hM.lt1
  have hlm2 := hM.lt2
  clear hM hR hG hS
  simp only [Spc.val]
  have HRS := hide (And.intro (HG.out.close) (closeR_fr m HG.out.f0))
  obtain ⟨r, hr⟩ : ∃ r, r = closeR m := ⟨_, rfl⟩
  have HA1 := hide (close_any ((w.alloc (.cells #[.int .i64 s.e, .int .i64 s.l, .int .i64 s.t, .bool s.a] 28)).alloc (.cells #[.int .i64 3, .int .i64 on, .bool oo] 52)) bm lm s m ((HM.out.alloc _).alloc _) HG.out (by have := HG.out.n; omega))
  have HA2 := hide (fun (w2 : World) (h2 : RR w2 base b v D s m) (h3 : base ≤ w2.heap.size) => rclose_any w2 base b v D s m h2 HG.out HS.out hD h3)
  rw [← hr] at HA1 HA2 HRS
  clear hr
  go_enter Try.func17, Try.ntmps17
  go_wp2_with fail
  refine HA1.out.mono ?_
  rintro e w2 ⟨lv, rfl, ho, hm, hf⟩
  have HR2 := hide (((HR.out.alloc (.cells #[.int .i64 s.e, .int .i64 s.l, .int .i64 s.t, .bool s.a] 28)).alloc (.cells #[.int .i64 3, .int .i64 on, .bool oo] 52)).fr hf (fun h9 => by rcases h9 with h9 | h9; exact HR.out.1.apart HM.out.1 (by decide) h9; exact HR.out.1.apart HM.out.2 (by decide) h9) (fun g hg hg' => by
    rcases hg' with h9 | h9
    · rw [h9] at hg; exact (HR.out.2.ne HM.out.1 (by decide)) hg
    · rw [h9] at hg; exact (HR.out.2.ne HM.out.2 (by decide)) hg))
  have HB2 := hide (Below.trans (((Below.refl B w).alloc hB5 (.cells #[.int .i64 s.e, .int .i64 s.l, .int .i64 s.t, .bool s.a] 28)).alloc (by simp; omega) (.cells #[.int .i64 3, .int .i64 on, .bool oo] 52)) (hf.away (B := B) (by omega) (by omega) (by simp; omega)))
  have HM2 := hide hm
  have HL2 := hide ho
  have hz2 : w.heap.size ≤ w2.heap.size := by have := hf.size; simp at this; omega
  have C2 : Blk w2 (w.heap.size + 1) 52 #[.int .i64 3, .int .i64 on, .bool oo] := hf.blk (by simpa using Blk.new (w.alloc (.cells #[.int .i64 s.e, .int .i64 s.l, .int .i64 s.t, .bool s.a] 28)) 52 #[.int .i64 3, .int .i64 on, .bool oo]) (fun h9 => by have := HM.out.lt1; have := HM.out.lt2; rcases h9 with h9 | h9 <;> omega)
  obtain ⟨p0, p1, p2, p3⟩ := C2.three
  clear ho hm hf C2
  go_wp2_with fail
  refine (HA2.out w2 HR2.out (by omega)).mono ?_
  rintro e w3 ⟨uv, v3, rfl, ho, hr, hf⟩
  have HM3 := hide (HM2.out.fr hf (fun h9 => by rcases h9 with h9 | h9; exact HR2.out.1.apart HM2.out.1 (by decide) h9.symm; exact (HR2.out.2.ne HM2.out.1 (by decide)) h9) (fun h9 => by rcases h9 with h9 | h9; exact HR2.out.1.apart HM2.out.2 (by decide) h9.symm; exact (HR2.out.2.ne HM2.out.2 (by decide)) h9))
  have HL3 := hide (HL2.out.fr hf (fun g hg h9 => by rcases h9 with h9 | h9; exact (HL2.out.ne HR2.out.1 (by decide)) (h9 ▸ hg); obtain ⟨cs1, t1⟩ := HL2.out.typed g hg; obtain ⟨cs2, t2⟩ := HR2.out.2.typed g h9; exact t1.apart t2 (by decide) rfl))
  have HB3 := hide (HB2.out.trans (hf.below (B := B) (Nat.le_trans hB5 HB2.out.size) (fun k hk h9 => by rcases h9 with h9 | h9; omega; have := (HR2.out.2.lt k h9).1; omega)))
  have HR3 := hide hr
  have HU3 := hide ho
  have hz3 := hf.size
  clear ho hr hf p0 p1 p2 p3
  obtain ⟨rm, hrm⟩ : ∃ rm, rm = r.m := ⟨_, rfl⟩
  have HGX := hide HRS.out.1
  have HMX := hide HM3.out
  have HRX := hide HR3.out
  rw [← hrm] at HGX HMX HRX
  have HRM := hide hrm
  clear hrm
  go_wp2_with fail
  refine (state_any w3 bm lm s rm HMX.out).mono ?_
  rintro e w9 ⟨rfl, hb9⟩
  have HM9 := hide (HMX.out.below hb9)
  have HR9 := hide (HRX.out.below hb9)
  have HB9 := hide (HB3.out.trans (hb9.mono (Nat.le_trans hB5 HB3.out.size)))
  have HL9 := hide (HL3.out.below hb9)
  have HU9 := hide (HU3.out.below hb9)
  clear hb9
  have hgn := HGX.out.n
  have HST := hide HGX.out.stg
  simp only [stVal]
  obtain ⟨rA, rc, hrv, hrc⟩ := HR9.out.form
  obtain ⟨c0, c1, c2, c4, c5, c6, c7, f5, f6, f7, hlt, f4⟩ := HR9.out.open
  rw [hrv] at c4
  have HSV : Hid (∀ (o : Obj) (n : Nat), Sl ((w9.alloc o).drewN n) ((w9.alloc o).drewN n).heap.size (.slice rA (D ++ r.ps).length rc) 3 (D ++ r.ps).length (infs (D ++ r.ps))) := fun o n => by rw [← hrv]; exact ((HR9.out.2.alloc o).drewN n).sl
  try simp only [List.length_append] at HSV
  rw [hgn]
  clear hgn f5 f6 f7 f4 c0 c1 c2
  go_wp2_with fail
  go_quiet (first
    | (go_at_call 29; refine Calls.quiet_of (same10 _ _ _ _ _ _ ((HL9.out.alloc _).drewN _).sl ((HU9.out.alloc _).drewN _).sl))
    | (go_at_call 30; refine Calls.quiet_of_same ((refStage _ (D ++ r.ps) _ _ _ (HSV.out _ _) (by simp)).mono fun _ _ h => ⟨by rw [h.1, HST.out], h.2.symm⟩)))
  clear c4 c5 c6 c7
  go_wp2_with fail
  go_ret
  refine ⟨rfl, _, _, rm, (HM9.out.alloc _).drewN _, (HR9.out.alloc _).drewN _, HGX.out, ?_, ?_, (HB9.out.alloc (Nat.le_trans hB5 HB9.out.size) _).drewN _⟩
  · rw [List.length_append]; have := HRS.out.2.2; omega
  · rw [HRM.out]; have := HRS.out.2.1; omega

end Go.Proofs.Ytghkkekebjhjlaa
