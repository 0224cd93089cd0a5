/- timers.Heap: Cancel, Next. -/
import Derived.Test.YtogelnljkdcajaaHp2
namespace Go.Proofs.Ytogelnljkdcajaa
open Go.RowKit Go.Sort
set_option linter.unusedVariables false
set_option linter.unusedSimpArgs false


set_option maxRecDepth 100000 in
set_option maxHeartbeats 4000000 in
theorem hnext_any (w : World) (base hb tb mb : Nat) (lv : Value) (L : List TV) (h : HpS w base hb tb mb lv L) :
    Calls Try.prog 16 #[.pointer (some ⟨hb, 0, none⟩)] w fun e w' => Below w.heap.size w w' ∧
      ((L = [] ∧ e = .returned (.tuple #[.agg #[.int .i64 0, .slice none 0 0, .int .i64 0, .int .i64 0, .int .i64 0], .bool false])) ∨ (L ≠ [] ∧ ∃ u, e = .returned (.tuple #[.agg #[.int .i64 (gt L 0).a, u, .int .i64 (gt L 0).f, .int .i64 (gt L 0).t, .int .i64 (gt L 0).w], .bool true]) ∧ Own w' w.heap.size bT 1 u (gt L 0).kb.length (bys (gt L 0).kb))) := by
  obtain ⟨c0, t0, t1, hlt, htl, A, c, rfl, hc⟩ := h.open
  obtain ⟨M, ht, hg⟩ := h.hp.st
  obtain ⟨n, hn⟩ : ∃ n, n = L.length := ⟨_, rfl⟩
  by_cases hL : L = []
  · have HL := hide hL
    have hn0 : L.length = 0 := by rw [hL]; rfl
    rw [hn0] at t0
    clear h ht hg hn hc hn0 hL
    go_enter Try.func16, Try.ntmps16
    go_wp2_with fail
    have HB : Hid (Below w.heap.size w (w.alloc (.cells #[.int .i64 0, .slice none 0 0, .int .i64 0, .int .i64 0, .int .i64 0] tmT))) := (Below.refl _ _).alloc (Nat.le_refl _) _
    have hK := Blk.new w tmT #[.int .i64 0, .slice none 0 0, .int .i64 0, .int .i64 0, .int .i64 0]
    change bodyPost _ _ _ _ _ (w.alloc (.cells #[.int .i64 0, .slice none 0 0, .int .i64 0, .int .i64 0, .int .i64 0] tmT))
    generalize w.alloc (.cells #[.int .i64 0, .slice none 0 0, .int .i64 0, .int .i64 0, .int .i64 0] tmT) = w1 at *
    have c0 : w1.cell? ⟨w.heap.size, 0, none⟩ = some (.int .i64 0) := hK.cell 0
    have c1 : w1.cell? ⟨w.heap.size, 1, none⟩ = some (.slice none 0 0) := hK.cell 1
    have c2 : w1.cell? ⟨w.heap.size, 2, none⟩ = some (.int .i64 0) := hK.cell 2
    have c3 : w1.cell? ⟨w.heap.size, 3, none⟩ = some (.int .i64 0) := hK.cell 3
    have c4 : w1.cell? ⟨w.heap.size, 4, none⟩ = some (.int .i64 0) := hK.cell 4
    have hres : Try.f16.results = #[.cell 2 tmT, .tmp 3] := by kernel_rfl
    refine bodyPost_ret (v := .tuple #[.agg #[.int .i64 0, .slice none 0 0, .int .i64 0, .int .i64 0, .int .i64 0], .bool false]) ?_ rfl ⟨HB.out, .inl ⟨HL.out, rfl⟩⟩
    simp [results, hres, go_sem, c0, c1, c2, c3, c4]
  · have HL := hide hL
    have hl0 : 0 < L.length := by cases L with | nil => exact absurd rfl hL | cons => simp
    obtain ⟨ad, rfl, hab, a0, a1, a2, a3, a4⟩ := tm_at ht.own.sl hl0 rfl
    have hk := ht.keys L[0] (List.getElem_mem hl0)
    have hz0 : ad.add (0 * 5) = ad := by rw [Nat.zero_mul]; unfold Addr.add; split <;> simp_all
    rw [hz0] at hab a0 a1 a2 a3 a4
    rw [← gt_of hl0] at a0 a1 a2 a3 a4 hk
    rw [← hn] at t0 hl0
    generalize gt L 0 = x at a0 a1 a2 a3 a4 hk ⊢
    have e0 : ((n : Int) = 0) = False := eq_false (by omega)
    have hn0 : (0 : Int) < (n : Int) := by omega
    obtain ⟨xA, xc, hkx, hxc⟩ := hk.1.sl.form
    obtain ⟨xa, xk, xb, xf, xt, xw⟩ := x
    simp only at hkx hxc a0 a1 a2 a3 a4 hk
    subst hkx
    have HK := hide hk
    clear h ht hg hn hc hL hk
    go_enter Try.func16, Try.ntmps16
    go_wp2_with fail
    have HB : Hid (Below w.heap.size w (w.alloc (.cells #[.int .i64 0, .slice none 0 0, .int .i64 0, .int .i64 0, .int .i64 0] tmT))) := (Below.refl _ _).alloc (Nat.le_refl _) _
    have HP := hide (Blk.new w tmT #[.int .i64 0, .slice none 0 0, .int .i64 0, .int .i64 0, .int .i64 0])
    have HSL := hide (HK.out.1.sl.below HB.out)
    refine (copied_any xa xf xt xw _ xb xb.length w.heap.size (w.alloc (.cells #[.int .i64 0, .slice none 0 0, .int .i64 0, .int .i64 0, .int .i64 0] tmT)) HSL.out rfl (Nat.le_trans HK.out.2.2 (by decide)) HB.out.size).mono ?_
    generalize w.alloc (.cells #[.int .i64 0, .slice none 0 0, .int .i64 0, .int .i64 0, .int .i64 0] tmT) = w1 at *
    rintro e w2 ⟨u, rfl, ho, hb2⟩
    obtain ⟨uA, uc, rfl, huc⟩ := ho.sl.form
    have HP2 := hide (HP.out.below hb2 HP.out.lt)
    have HB2 := hide (HB.out.trans (hb2.mono HB.out.size))
    have HO2 := hide (ho.lower HB.out.size)
    have HNE : Hid ((Value.slice uA xb.length uc).ownBlock ≠ some w.heap.size) := ho.ne HP2.out (by decide)
    clear ho hb2 HSL HK
    clear c0 t0 t1 hlt htl hab a0 a1 a2 a3 a4
    have q0 : w2.cell? ⟨w.heap.size, 0, none⟩ = some (.int .i64 0) := HP2.out.cell 0
    have q1 : w2.cell? ⟨w.heap.size, 1, none⟩ = some (.slice none 0 0) := HP2.out.cell 1
    have q2 : w2.cell? ⟨w.heap.size, 2, none⟩ = some (.int .i64 0) := HP2.out.cell 2
    have q3 : w2.cell? ⟨w.heap.size, 3, none⟩ = some (.int .i64 0) := HP2.out.cell 3
    have q4 : w2.cell? ⟨w.heap.size, 4, none⟩ = some (.int .i64 0) := HP2.out.cell 4
    have y0 := HP2.out.frozen 0
    have y1 := HP2.out.frozen 1
    have y2 := HP2.out.frozen 2
    have y3 := HP2.out.frozen 3
    have y4 := HP2.out.frozen 4
    have hlp := HP2.out.lt
    go_wp2_with fail
    have HR9 : Hid (Own (put5 w2 ⟨w.heap.size, 0, none⟩ ⟨xa, .slice uA xb.length uc, xb, xf, xt, xw⟩) w.heap.size bT 1 (.slice uA xb.length uc) xb.length (bys xb) ∧
        Blk (put5 w2 ⟨w.heap.size, 0, none⟩ ⟨xa, .slice uA xb.length uc, xb, xf, xt, xw⟩) w.heap.size tmT #[.int .i64 xa, .slice uA xb.length uc, .int .i64 xf, .int .i64 xt, .int .i64 xw] ∧
        Below w.heap.size w (put5 w2 ⟨w.heap.size, 0, none⟩ ⟨xa, .slice uA xb.length uc, xb, xf, xt, xw⟩)) := by
      unfold put5
      simp only [Nat.zero_add]
      refine ⟨?_, ?_, ?_⟩
      · exact ((((HO2.out.put (p := ⟨w.heap.size, 0, none⟩) HNE.out _).put (p := ⟨w.heap.size, 1, none⟩) HNE.out _).put (p := ⟨w.heap.size, 2, none⟩) HNE.out _).put (p := ⟨w.heap.size, 3, none⟩) HNE.out _).put (p := ⟨w.heap.size, 4, none⟩) HNE.out _
      · exact ((((HP2.out.put 0 _).put 1 _).put 2 _).put 3 _).put 4 _
      · exact ((((((Fr.of_below HB2.out : Fr nob w w2).put (p := ⟨w.heap.size, 0, none⟩) (.inr (Nat.le_refl _)) _).put (p := ⟨w.heap.size, 1, none⟩) (.inr (Nat.le_refl _)) _).put (p := ⟨w.heap.size, 2, none⟩) (.inr (Nat.le_refl _)) _).put (p := ⟨w.heap.size, 3, none⟩) (.inr (Nat.le_refl _)) _).put (p := ⟨w.heap.size, 4, none⟩) (.inr (Nat.le_refl _)) _).below (Nat.le_refl _) (fun k _ h => h)
    change bodyPost _ _ _ _ _ (put5 w2 ⟨w.heap.size, 0, none⟩ ⟨xa, .slice uA xb.length uc, xb, xf, xt, xw⟩)
    generalize put5 w2 ⟨w.heap.size, 0, none⟩ ⟨xa, .slice uA xb.length uc, xb, xf, xt, xw⟩ = w9 at *
    have c0 : w9.cell? ⟨w.heap.size, 0, none⟩ = some (.int .i64 xa) := HR9.out.2.1.cell 0
    have c1 : w9.cell? ⟨w.heap.size, 1, none⟩ = some (.slice uA xb.length uc) := HR9.out.2.1.cell 1
    have c2 : w9.cell? ⟨w.heap.size, 2, none⟩ = some (.int .i64 xf) := HR9.out.2.1.cell 2
    have c3 : w9.cell? ⟨w.heap.size, 3, none⟩ = some (.int .i64 xt) := HR9.out.2.1.cell 3
    have c4 : w9.cell? ⟨w.heap.size, 4, none⟩ = some (.int .i64 xw) := HR9.out.2.1.cell 4
    have hres : Try.f16.results = #[.cell 2 tmT, .tmp 3] := by kernel_rfl
    refine bodyPost_ret (v := .tuple #[.agg #[.int .i64 xa, .slice uA xb.length uc, .int .i64 xf, .int .i64 xt, .int .i64 xw], .bool true]) ?_ rfl ⟨HR9.out.2.2, .inr ⟨HL.out, _, rfl, HR9.out.1⟩⟩
    simp [results, hres, go_sem, c0, c1, c2, c3, c4]

end Go.Proofs.Ytogelnljkdcajaa
