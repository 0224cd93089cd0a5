/- The law's own functions of layer 17: awake, same, settle. -/
import Derived.Test.YtlaijnabdlidiaaOldest
import Derived.Test.YtlaijnabdlidiaaTake
namespace Go.Proofs.Ytlaijnabdlidiaa
open Go.RowKit
set_option linter.unusedVariables false
set_option linter.unusedSimpArgs false

theorem QR.apart {w w1 : World} {base b : Nat} {F : Nat → Prop} {W Bn : List Itm} {p : Int} (h : QR w base b F W Bn p) (hf : Fr F w w1) (hb : base ≤ w.heap.size) : Below base w w1 :=
  hf.below hb (fun k hk hF => by have := (h.inF k hF).1; omega)

set_option maxHeartbeats 1000000 in
theorem awake17 (w : World) : Calls Try.prog 9 #[] w fun e w' => e = .returned (.bool true) ∧ Below w.heap.size w w' := by
  go_enter Try.func9, Try.ntmps9
  go_wp2_with fail
  refine (qnew_any _ w.heap.size (Nat.le_refl _)).mono ?_
  rintro e w1 ⟨rfl, hq, rfl⟩
  have HQ := hide hq
  clear hq
  go_wp2_with fail
  have HS : Hid (Sl ((w.alloc (.cells #[FV, .slice none 0 0, .slice none 0 0, .int .i64 0] qT)).alloc (.cells #[.int .i64 5, .int .i64 0, .int .i64 3, .int .i64 0] iT)) (w.heap.size + 2) (.slice (some ⟨w.heap.size + 1, 0, none⟩) 2 2) 2 2 (its [⟨5, 0⟩, ⟨3, 0⟩])) := by
    have h := (Own.new (n := 2) (sz := 2) (e := iT) (base := 0) (w.alloc (.cells #[FV, .slice none 0 0, .slice none 0 0, .int .i64 0] qT)) #[.int .i64 5, .int .i64 0, .int .i64 3, .int .i64 0] (by omega) (by omega) rfl).sl
    simp only [World.size_alloc] at h
    exact h
  go_at_call 10
  refine (push_any _ [⟨5, 0⟩, ⟨3, 0⟩] 2 _ _ w.heap.size w.heap.size _ [] [] 0 (HQ.out.alloc _) HS.out rfl (by simp) (by simp; omega)).mono ?_
  rintro e w2 ⟨F2, rfl, hq, hf, hsub⟩
  have HB2 := hide ((((Below.refl w.heap.size w).alloc (Nat.le_refl _) _).alloc (by simp) _).trans ((HQ.out.alloc _).apart hf (by simp; omega)))
  have HQ2 := hide hq
  clear hq hf hsub
  go_wp2_with fail
  refine (qlen_any _ _ _ _ _ _ _ HQ2.out).mono ?_
  rintro e w3 ⟨rfl, rfl⟩
  go_wp2_with fail
  go_ret
  exact ⟨rfl, HB2.out⟩

instance : DecidableEq Itm := fun a b => if h : a.t = b.t ∧ a.n = b.n then isTrue (by cases a; cases b; simp_all) else isFalse (fun e => h (by subst e; exact ⟨rfl, rfl⟩))

theorem take_ne {α : Type} [DecidableEq α] (C D : List α) (k : Nat) (h1 : k < C.length) (h2 : k < D.length) (h : C[k] ≠ D[k]) : decide (C = D) = false := by
  rw [decide_eq_false_iff_not]
  rintro rfl
  exact h rfl

set_option maxHeartbeats 4000000 in
theorem same17 (v u : Value) (C D : List Itm) (m n B : Nat) (w : World) (hs : Sl w B v 2 m (its C)) (hu : Sl w B u 2 n (its D)) (hC : C.length = m) (hD : D.length = n) (hB : B ≤ w.heap.size) (hn : m ≤ 4611686018427387904) :
    Calls Try.prog 18 #[v, u] w fun e w' => e = .returned (.bool (decide (C = D))) ∧ Below w.heap.size w w' := by
  obtain ⟨A, c, rfl, hc⟩ := hs.form
  obtain ⟨A', c', rfl, hc'⟩ := hu.form
  have HS := hide hs
  have HU := hide hu
  have HC := hide hC
  have HD := hide hD
  clear hs hu hC hD
  by_cases hmn : m = n
  · subst hmn
    go_enter Try.func18, Try.ntmps18
    go_wp2_with fail
    go_loopw [13] (fun i wr => ∃ k : Nat, k ≤ m ∧ i = .int .i64 k ∧ Hid (C.take k = D.take k) ∧ Hid (Below w.heap.size w wr)) (fun i _ => m - (intOf i).toNat)
    case atStart => exact ⟨0, Nat.zero_le _, rfl, by simp [Hid], Below.refl _ _⟩
    case round =>
      obtain ⟨k, hk, rfl, HT, HB⟩ := hrel
      by_cases hlt : k < m
      · obtain ⟨ad, rfl, hb, h0, h1⟩ := itm_at (HS.out.below (HB.out.mono hB)) hlt HC.out
        obtain ⟨ad', rfl, hb', h0', h1'⟩ := itm_at (HU.out.below (HB.out.mono hB)) hlt HD.out
        have hkC : k < C.length := by rw [HC.out]; exact hlt
        have hkD : k < D.length := by rw [HD.out]; exact hlt
        have HNE := hide (take_ne C D k hkC hkD)
        have HEQ : Hid (C[k] = D[k] → C.take (k + 1) = D.take (k + 1)) := by
          intro h
          rw [List.take_succ_eq_append_getElem hkC, List.take_succ_eq_append_getElem hkD, HT.out, h]
        have b0 : 0 ≤ (k : Int) := by omega
        have b1 : (k : Int) < m := by omega
        generalize C[k] = p at h0 h1 HNE HEQ
        generalize D[k] = q at h0' h1' HNE HEQ
        obtain ⟨pt, pn⟩ := p
        obtain ⟨qt, qn⟩ := q
        simp only at h0 h1 h0' h1'
        by_cases e1 : pt = qt
        · subst e1
          by_cases e2 : pn = qn
          · subst e2
            go_wp2_with fail
            go_quiet (fail)
            go_wp2_with fail
            go_roundw
            case rel => exact ⟨k + 1, by omega, by go_num, HEQ.out (by simp), HB.out.drewN _⟩
            case measure => simp [intOf]; omega
          · have e3 : (pn == qn) = false := by simpa using e2
            have e4 : (pn != qn) = true := by simpa using e2
            have HX := hide (HNE.out (fun h => e2 (by injection h)))
            clear e2
            go_wp2_with fail
            go_quiet (fail)
            go_wp2_with fail
            go_ret
            exact ⟨by rw [HX.out]; rfl, HB.out.drewN _⟩
        · have e3 : (pt == qt) = false := by simpa using e1
          have e4 : (pt != qt) = true := by simpa using e1
          have HX := hide (HNE.out (fun h => e1 (by injection h)))
          clear e1
          go_wp2_with fail
          go_quiet (fail)
          go_wp2_with fail
          go_ret
          exact ⟨by rw [HX.out]; rfl, HB.out.drewN _⟩
      · have HX : Hid (decide (C = D) = true) := by
          have h := HT.out
          rw [List.take_of_length_le (by rw [HC.out]; omega), List.take_of_length_le (by rw [HD.out]; omega)] at h
          simp [Hid, h]
        go_wp2_with fail
        go_ret
        exact ⟨by rw [HX.out]; rfl, HB.out⟩
  · have e1 : ((m : Int) != n) = true := by simp; omega
    have e2 : ((m : Int) == n) = false := beq_eq_false_iff_ne.2 (by omega)
    have HX : Hid (decide (C = D) = false) := by
      rw [Hid, decide_eq_false_iff_not]
      intro h
      apply hmn
      rw [← HC.out, ← HD.out, h]
    clear hmn
    go_enter Try.func18, Try.ntmps18
    go_wp2_with fail
    go_ret
    exact ⟨by rw [HX.out]; rfl, Below.refl _ _⟩

end Go.Proofs.Ytlaijnabdlidiaa
