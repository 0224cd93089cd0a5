/- The law's awake (layer 15). -/
import Derived.Test.YtkobaidamdffmaaKs15
import Derived.Test.YtkobaidamdffmaaCell6
import Derived.Test.YtkobaidamdffmaaHold
namespace Go.Proofs.Ytkobaidamdffmaa
open Go.RowKit Go.Sort
set_option linter.unusedVariables false
set_option linter.unusedSimpArgs false

set_option maxRecDepth 100000 in
set_option maxHeartbeats 4000000 in
theorem awake15 (w : World) : Calls Try.prog 9 #[] w fun e w' => e = .returned (.bool true) ∧ Below w.heap.size w w' := by
  go_enter Try.func9, Try.ntmps9
  go_wp2_with fail
  refine (cnew_any w w.heap.size (Nat.le_refl _)).mono ?_
  rintro e w1 ⟨tb, cb, rfl, ht, hb⟩
  have HT := hide ht
  have HB := hide hb
  clear ht hb
  go_wp2_with fail
  have HT2 : Hid (TabS ((w1.alloc (.cells #[.int .u8 1] bT)).alloc (.cells #[.slice (some ⟨w1.heap.size, 0, none⟩) 1 1, .int .i64 0, .int .i64 5] keyT)) w.heap.size tb cb none none false [] [] []) :=
    HT.out.below (((Below.refl w1.heap.size w1).alloc (Nat.le_refl _) _).alloc (by simp) _)
  have HB2 : Hid (Below w.heap.size w ((w1.alloc (.cells #[.int .u8 1] bT)).alloc (.cells #[.slice (some ⟨w1.heap.size, 0, none⟩) 1 1, .int .i64 0, .int .i64 5] keyT))) :=
    (HB.out.alloc HB.out.size _).alloc (by simp; have := HB.out.size; omega) _
  have HK2 : Hid (Own ((w1.alloc (.cells #[.int .u8 1] bT)).alloc (.cells #[.slice (some ⟨w1.heap.size, 0, none⟩) 1 1, .int .i64 0, .int .i64 5] keyT)) 0 bT 1 (.slice (some ⟨w1.heap.size, 0, none⟩) 1 1) 1 (bys [1])) :=
    (Own.new (n := 1) (sz := 1) (e := bT) w1 0 #[.int .u8 1] (by omega) (by omega) rfl).alloc _
  have HV2 : Hid (Blk ((w1.alloc (.cells #[.int .u8 1] bT)).alloc (.cells #[.slice (some ⟨w1.heap.size, 0, none⟩) 1 1, .int .i64 0, .int .i64 5] keyT)) (w1.heap.size + 1) keyT #[.slice (some ⟨w1.heap.size, 0, none⟩) 1 1, .int .i64 0, .int .i64 5]) := by
    have h9 := Blk.new (w1.alloc (.cells #[.int .u8 1] bT)) keyT #[.slice (some ⟨w1.heap.size, 0, none⟩) 1 1, .int .i64 0, .int .i64 5]
    simpa [Hid] using h9
  have HZ2 : Hid (w1.heap.size + 1 < ((w1.alloc (.cells #[.int .u8 1] bT)).alloc (.cells #[.slice (some ⟨w1.heap.size, 0, none⟩) 1 1, .int .i64 0, .int .i64 5] keyT)).heap.size) := by show _ < _; simp
  have HZ1 := hide HB.out.size
  generalize ((w1.alloc (.cells #[.int .u8 1] bT)).alloc (.cells #[.slice (some ⟨w1.heap.size, 0, none⟩) 1 1, .int .i64 0, .int .i64 5] keyT)) = w2 at *
  obtain ⟨kb, hkb⟩ : ∃ kb, kb = w1.heap.size := ⟨_, rfl⟩
  have hz1 := HZ1.out
  have hz2 := HZ2.out
  rw [← hkb] at HK2 HV2 hz2 ⊢
  clear hkb HT HB HZ1 HZ2
  refine (cput_any w2 w.heap.size tb cb w2.heap.size 1 1 0 0 none none false [] [] [] (some ⟨kb, 0, none⟩) none [1] 0 5 ⟨[], 4, 0, 0, 0, false, false⟩ HT2.out HK2.out.sl rfl (fun c hc => by simp at hc; omega) (fun X hX => Sl.nil _ _ _) rfl (fun c hc => by simp at hc) (Nat.le_refl _) HB2.out.size).mono ?_
  rintro e w3 (⟨hn, _, _⟩ | ⟨hr, rfl, p, hp1, hp2, hp3, c', hc', ht3, hf3⟩)
  · exact absurd (by decide) hn
  have HT3 := hide ht3
  have HB3 : Hid (Below w.heap.size w w3) := HB2.out.trans (hf3.below HB2.out.size (fun k hk h => by have := (HT2.out.lows k h).1; omega))
  have HV3 := hide (hf3.blk HV2.out (HT2.out.nblk HV2.out (by decide)))
  have HK3 := hide (HK2.out.fr hf3 (fun g hg => by obtain ⟨cs, hc⟩ := HK2.out.typed g hg; exact HT2.out.nblk hc (by decide)))
  have HLK : Hid (gv (lk (putM [] p c') p) = c' ∧ (lk (putM [] p c') p).isSome = true) := by
    rw [lk_put]; simp [gv, Hid]
  clear ht3 hf3 HT2 HB2 HV2 HK2 hr
  have v0 : w3.cell? ⟨kb + 1, 0, none⟩ = some (.slice (some ⟨kb, 0, none⟩) 1 1) := HV3.out.cell 0
  have v1 : w3.cell? ⟨kb + 1, 1, none⟩ = some (.int .i64 0) := HV3.out.cell 1
  have v2 : w3.cell? ⟨kb + 1, 2, none⟩ = some (.int .i64 5) := HV3.out.cell 2
  have hv := HV3.out.lt
  have HG : Hid (Calls Try.prog 14 #[.pointer (some ⟨tb, 0, none⟩), .agg #[.slice (some ⟨kb, 0, none⟩) 1 1, .int .i64 0, .int .i64 5]] w3 (GetP w3 ⟨[], 4, 0, 0, 0, false, false⟩ true)) := by
    have h9 := cget_any w3 w.heap.size tb cb w3.heap.size 1 1 none none false (putM [] p c') (kpW false [] [] [] p) (kpF false [] [] [] p) (some ⟨kb, 0, none⟩) p HT3.out (by rw [hp1]; exact HK3.out.sl) (by rw [hp1]; rfl) (Nat.le_refl _)
    rw [HLK.out.1, HLK.out.2, hc', hp2, hp3] at h9
    exact h9
  clear HLK hc' hp1 hp2 hp3 HT3 HK3
  go_wp2_with fail
  refine HG.out.mono ?_
  rintro e w4 ⟨uA, uc, rfl, ho, hb4⟩
  have HB4 : Hid (Below w.heap.size w w4) := HB3.out.trans (hb4.mono HB3.out.size)
  clear ho hb4 HG HB3 HV3 v0 v1 v2 hv
  have hz4 := HB4.out.size
  go_wp2_with fail
  go_ret
  refine ⟨rfl, ?_⟩
  exact HB4.out.alloc HB4.out.size _
end Go.Proofs.Ytkobaidamdffmaa
