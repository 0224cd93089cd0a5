/- The reference's Tape: Crash. -/
import Derived.Test.YtlllocfcljgacaaRef18e
namespace Go.Proofs.Ytlllocfcljgacaa
open Go.RowKit
set_option linter.unusedVariables false
set_option linter.unusedSimpArgs false

set_option maxRecDepth 100000 in
set_option maxHeartbeats 8000000 in
theorem rcrash_any (w : World) (base b : Nat) (rv : Value) (R : List Rec) (sn n : Nat) (c keep : Int) (h : RT w base b rv R sn c) (hs : sn ≤ R.length) (hf : Fit (R.map (·.2))) (h8 : ∀ r ∈ R, Bytes8 r.2) (hX : (framesL (R.map (·.2))).length ≤ 1073741824)
    (hn : (n : Int) = (framesL ((R.map (·.2)).take sn)).length + min (max keep 0) ((framesL (R.map (·.2))).length - (framesL ((R.map (·.2)).take sn)).length)) :
    Calls Try.prog 24 #[.pointer (some ⟨b, 0, none⟩), .int .i64 keep] w fun e w' => e = .returned (.int .i64 ((n : Int) - (framesL (scanB ((framesL (R.map (·.2))).take n))).length)) ∧
      (∃ rv' R', Blk w' b xT #[rv', .int .i64 R'.length, .int .i64 c] ∧ OwnRecs w' w.heap.size rv' R' ∧ R'.map (·.2) = scanB ((framesL (R.map (·.2))).take n)) ∧ Fr (fun k => k = b) w w' := by
  obtain ⟨A, rc, rfl, hrc⟩ := h.2.1.sl.form
  have H := hide h
  have HF := hide hf
  have H8 := hide h8
  obtain ⟨L, hL⟩ : ∃ L, L = R.map (·.2) := ⟨_, rfl⟩
  have H8L : Hid (Bytes8 (framesL L)) := framesL_bytes8 (by
    intro r hr
    rw [hL] at hr
    obtain ⟨q, hq, rfl⟩ := List.mem_map.1 hr
    exact h8 q hq)
  rw [← hL] at hX hn ⊢
  have HL := hide hL
  clear hL
  have hsle := framesL_take L sn
  obtain ⟨x, hx⟩ : ∃ x, x = (framesL L).length := ⟨_, rfl⟩
  obtain ⟨y, hy⟩ : ∃ y, y = (framesL (L.take sn)).length := ⟨_, rfl⟩
  rw [← hx] at hX hn hsle
  rw [← hy] at hn hsle
  have HXX := hide hx
  have HYY := hide hy
  obtain ⟨rn, hrn⟩ : ∃ rn, rn = R.length := ⟨_, rfl⟩
  rw [← hrn] at hrc
  have HRN := hide hrn
  have HSN := hide hs
  have hbl := h.1.lt
  have HN := hide hn
  have hnx : n ≤ x := by omega
  rw [show (Value.slice A R.length rc) = Value.slice A rn rc by rw [hrn]] at H
  clear h hf h8 hx hy hrn hs hn
  go_enter Try.func24, Try.ntmps24
  go_wp2_with fail
  have HXB : Hid ((framesL (R.map (·.2))).length ≤ 1073741824) := by rw [Hid, ← HL.out, ← HXX.out]; exact hX
  go_region_held3 (fun w' : World => w'.cell? ⟨b, 1, none⟩ = some (.int .i64 sn) ∧ RT w' base b (.slice A rn rc) R sn c) (first
      | exact ⟨H.out.1.cell 1, H.out⟩
      | exact ⟨((H.out.drewN 1).below hb2).1.cell 1, (H.out.drewN 1).below hb2⟩
      | exact ⟨(((H.out.drewN 1).below hb2).below hb3).1.cell 1, ((H.out.drewN 1).below hb2).below hb3⟩) (first
    | (go_at_call 25; refine (rbytes_any _ base b _ R sn c (H.out.drewN 1) HF.out H8.out HXB.out).mono ?_; rintro e w2 ⟨u2, rfl, ho2, hb2⟩; rw [← HL.out, ← HXX.out] at ho2; obtain ⟨uA, uc, rfl, huc⟩ := ho2.sl.form)
    | (go_at_call 34; refine (rfirst_any _ base b _ R sn c sn ((H.out.drewN 1).below hb2) HSN.out HF.out H8.out HXB.out).mono ?_; rintro e w3 ⟨u3, rfl, ho3, hb3⟩; rw [← HL.out, ← HYY.out] at ho3; obtain ⟨oA, oc, rfl, hoc⟩ := ho3.sl.form))
  have HO2 := hide (ho2.below hb3)
  have hx2 : Below w.heap.size w w2 := ((Below.refl w.heap.size w).drewN 1).trans hb2
  have hs2 := hx2.size
  have HB3 := hide (hx2.trans (hb3.mono hs2))
  have hs3 := hb3.size
  have HT3 := hide (((H.out.drewN 1).below hb2).below hb3)
  clear ho2 ho3 hb2 hb3 hx2
  have hcase : ((n : Int) = y + keep ∧ keep < (x : Int) - y ∧ 0 < keep) ∨ ((n : Int) = y ∧ keep < (x : Int) - y ∧ ¬ 0 < keep) ∨ ((n : Int) = x ∧ ¬ keep < (x : Int) - y) := by
    have := HN.out
    omega
  have HSL : Hid (Sl w3 w3.heap.size (.slice uA n uc) 1 n (bys ((framesL L).take n))) := by
    have h9 := HO2.out.sl.take hnx
    rw [Nat.mul_one, bys_map, ← List.map_take, ← bys_map] at h9
    exact h9
  have hXl : ((framesL L).take n).length = n := by rw [List.length_take, ← HXX.out]; omega
  have HXL := hide hXl
  have hlt3 := HT3.out.1.lt
  have hnuc : n ≤ uc := by omega
  clear hXl
  rcases hcase with ⟨h1, h2, h3⟩ | ⟨h1, h2, h3⟩ | ⟨h1, h2⟩
  case' inl => have hv : (y : Int) + keep = n := h1.symm
  case' inr.inl =>
    obtain rfl : n = y := by omega
  case' inr.inr =>
    obtain rfl : n = x := by omega
  all_goals
    clear h1
    go_wp2_with fail
    refine (rscan_any _ ((framesL L).take n) n w3.heap.size w3 HSL.out HXL.out (fun z hz => H8L.out z (List.mem_of_mem_take hz)) (by omega) (Nat.le_refl _)).mono ?_
    rintro e w4 ⟨u4, Q4, rfl, ho, he, hb⟩
    have hfn : (framesL (scanB ((framesL L).take n))).length ≤ n := by
      have h9 := congrArg List.length (scan_spec _ (fun z hz => H8L.out z (List.mem_of_mem_take hz) : Bytes8 ((framesL L).take n))).2.1
      rw [List.length_append, HXL.out] at h9
      omega
    obtain ⟨f, hf⟩ : ∃ f, f = (framesL (scanB ((framesL L).take n))).length := ⟨_, rfl⟩
    have HFF := hide hf
    rw [← hf] at hfn
    rw [← hf]
    clear hf
    obtain ⟨lA, lc, rfl, hlc⟩ := ho.1.sl.form
    obtain ⟨qn, hqn⟩ : ∃ qn, qn = Q4.length := ⟨_, rfl⟩
    have HQN := hide hqn
    rw [← hqn] at hlc ho ⊢
    clear hqn
    have HO4 := hide ho
    have HE4 := hide he
    have HT4 := hide (HT3.out.below hb)
    have HB4 := hide (HB3.out.trans (hb.mono (by omega)))
    have hs4 := hb.size
    have c0 : w4.cell? ⟨b, 0, none⟩ = some (.slice A rn rc) := HT4.out.1.cell 0
    have c1 : w4.cell? ⟨b, 1, none⟩ = some (.int .i64 sn) := HT4.out.1.cell 1
    have q0 := HT4.out.1.frozen 0
    have q1 := HT4.out.1.frozen 1
    have hlt4 := HT4.out.1.lt
    clear ho he hb
    have HB5 : Hid (Blk ((w4.setCell ⟨b, 0, none⟩ (.slice lA qn lc)).setCell ⟨b, 1, none⟩ (.int .i64 qn)) b xT #[.slice lA qn lc, .int .i64 qn, .int .i64 c]) := (HT4.out.1.put 0 (.slice lA qn lc)).put 1 (.int .i64 qn)
    have HO5 : Hid (OwnRecs ((w4.setCell ⟨b, 0, none⟩ (.slice lA qn lc)).setCell ⟨b, 1, none⟩ (.int .i64 qn)) w.heap.size (.slice lA qn lc) Q4) := by
      have h9 : OwnRecs w4 w.heap.size (.slice lA qn lc) Q4 := ⟨HO4.out.1.lower (by omega), fun r hr => (HO4.out.2 r hr).lower (by omega)⟩
      have hp0 := HT4.out.1.put 0 (.slice lA qn lc)
      refine ⟨(h9.1.put (h9.1.ne HT4.out.1 (by decide)) _).put ((h9.1.put (h9.1.ne HT4.out.1 (by decide)) _).ne hp0 (by decide)) _, fun r hr => ?_⟩
      have h10 := h9.2 r hr
      exact (h10.put (h10.ne HT4.out.1 (by decide)) _).put ((h10.put (h10.ne HT4.out.1 (by decide)) _).ne hp0 (by decide)) _
    have HF5 : Hid (Fr (fun k => k = b) w ((w4.setCell ⟨b, 0, none⟩ (.slice lA qn lc)).setCell ⟨b, 1, none⟩ (.int .i64 qn))) := ((Fr.of_below HB4.out).put1 0 _).put1 1 _
    go_wp2_with fail
    go_ret
    rw [← HFF.out]
    exact ⟨rfl, ⟨_, Q4, by rw [← HQN.out]; exact HB5.out, HO5.out, HE4.out⟩, HF5.out⟩

end Go.Proofs.Ytlllocfcljgacaa
