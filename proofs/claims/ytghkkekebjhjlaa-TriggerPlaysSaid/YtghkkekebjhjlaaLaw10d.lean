/- TriggerPanes. -/
import Derived.Test.YtghkkekebjhjlaaTrig3
import Derived.Test.YtghkkekebjhjlaaCheck
namespace Go.Proofs.Ytghkkekebjhjlaa
open Go.RowKit
set_option linter.unusedVariables false
set_option linter.unusedSimpArgs false

theorem tyP10 : SlTy Try.prog 29 34 3 24 (.agg #[.int .i64 0, .int .i64 0, .bool false]) := ⟨Try.underlying29, info_parts (by kernel_rfl), rfl, by omega⟩
/-- a call of the script -/
structure Op10 where
  k : Int
  n : Int
  o : Bool
def Op10.cells (p : Op10) : List Value := [.int .i64 p.k, .int .i64 p.n, .bool p.o]
theorem Op10.cells3 (p : Op10) : p.cells.length = 3 := rfl
def ops10 (D : List Op10) : List Value := D.flatMap Op10.cells
theorem op_at {w : World} {B n c : Nat} {A : Option Addr} {D : List Op10} (h : Sl w B (.slice A n c) 3 n (ops10 D)) {k : Nat} (hk : k < n) (hD : D.length = n) :
    ∃ ad, A = some ad ∧ (ad.add (k * 3)).block < B ∧ w.cell? (ad.add (k * 3)) = some (.int .i64 (D[k]'(by omega)).k) ∧
      w.cell? ⟨(ad.add (k * 3)).block, (ad.add (k * 3)).off + 1, none⟩ = some (.int .i64 (D[k]'(by omega)).n) ∧
      w.cell? ⟨(ad.add (k * 3)).block, (ad.add (k * 3)).off + 2, none⟩ = some (.bool (D[k]'(by omega)).o) := by
  obtain ⟨ad, rfl, hb, hh⟩ := h.at_ hk
  rw [ops10, part_of _ 3 Op10.cells3 D k (by omega)] at hh
  refine ⟨ad, rfl, by rw [add_blk]; exact hb, ?_, ?_, ?_⟩
  · have := hh 0 _ rfl
    rwa [add_add'] at this
  · have := hh 1 _ rfl
    rwa [add_fld _ _ 1 (by omega)] at this
  · have := hh 2 _ rfl
    rwa [add_fld _ _ 2 (by omega)] at this

def cnt (D : List Inf) : Nat := (D.filter fun p => p.t == 1).length
theorem cnt_succ (D : List Inf) (k : Nat) (hk : k < D.length) : cnt (D.take (k + 1)) = cnt (D.take k) + if D[k].t = 1 then 1 else 0 := by
  rw [cnt, cnt, List.take_succ_eq_append_getElem hk, List.filter_append, List.length_append]
  congr 1
  by_cases h9 : D[k].t = 1
  · simp [h9]
  · simp [h9]

set_option maxHeartbeats 4000000 in
set_option maxRecDepth 100000 in
theorem panes_bad (s : Spc) (v : Value) (w : World) (h : s.ok = false) : Calls Try.prog 7 #[s.val, v] w fun e w' => e = .returned (.bool true) ∧ Below w.heap.size w w' := by
  have HE : Hid (sokE s = 100) := by simp [Hid, sokE, h]
  have H := hide h
  clear h
  obtain ⟨se, sl, st, sa⟩ := s
  simp only [Spc.val]
  go_enter Try.func7, Try.ntmps7
  go_wp2_with fail
  refine (tnew_bad _ ⟨se, sl, st, sa⟩ H.out).mono ?_
  rintro e w1 ⟨rfl, hb⟩
  have B1 : Blk w1 w.heap.size 28 #[.int .i64 se, .int .i64 sl, .int .i64 st, .bool sa] := (Blk.new _ _ _).below hb (by simp)
  have c0 := B1.cell 0
  have c1 := B1.cell 1
  have c2 := B1.cell 2
  have c3 := B1.cell 3
  have clt := B1.lt
  simp only [List.getElem?_toArray, List.getElem?_cons_succ, List.getElem?_cons_zero] at c0 c1 c2 c3
  have HB := hide (((Below.refl w.heap.size w).alloc (Nat.le_refl _) (.cells #[.int .i64 se, .int .i64 sl, .int .i64 st, .bool sa] 28)).trans (hb.mono (by simp)))
  clear hb B1
  go_wp2_with fail
  refine (scheck_any _ ⟨se, sl, st, sa⟩).mono ?_
  rintro e w2 ⟨rfl, hb⟩
  rw [HE.out]
  have HB2 := hide (HB.out.trans (hb.mono HB.out.size))
  clear hb c0 c1 c2 c3
  go_wp2_with fail
  refine (awake10 _).mono ?_
  rintro e w3 ⟨rfl, hb⟩
  have HB3 := hide (HB2.out.trans (hb.mono HB2.out.size))
  clear hb
  go_wp2_with fail
  go_ret
  exact ⟨rfl, HB3.out⟩

set_option maxHeartbeats 16000000 in
set_option maxRecDepth 100000 in
theorem panes_ok (s : Spc) (v : Value) (T : List Op10) (n : Nat) (w : World) (h : s.ok = true) (hs : Sl w w.heap.size v 3 n (ops10 T)) (hT : T.length = n) (hn : n * 24 ≤ 140737488351232) :
    Calls Try.prog 7 #[s.val, v] w fun e w' => e = .returned (.bool true) ∧ Below w.heap.size w w' := by
  obtain ⟨A, c, rfl, hc⟩ := hs.form
  have HS := hide hs
  have HT := hide hT
  have H := hide h
  clear h hs hT
  obtain ⟨S, rfl⟩ : ∃ S : Spc, S = s := ⟨s, rfl⟩
  have hval : S.val = .agg #[.int .i64 S.e, .int .i64 S.l, .int .i64 S.t, .bool S.a] := rfl
  rw [hval]
  clear hval
  go_enter Try.func7, Try.ntmps7
  go_wp2_with fail
  refine (tnew_ok _ S H.out).mono ?_
  rintro e w1 ⟨b, l, rfl, hm, hbel, hb, hl⟩
  simp only [World.size_alloc] at hb hl
  have HM := hide hm
  have HB1 := hide (((Below.refl w.heap.size w).alloc (Nat.le_refl _) (.cells #[.int .i64 S.e, .int .i64 S.l, .int .i64 S.t, .bool S.a] 28)).trans (hbel.mono (by simp)))
  clear hm hbel
  go_wp2_with fail
  go_loopw [7, 36] (fun al i wr => ∃ (k : Nat) (D : List Inf) (m : Mst), k ≤ n ∧ i = .int .i64 k ∧ D.length ≤ k ∧ Hid (GI D m ∧ m.fr ≤ 1000 * k) ∧ Hid (MR wr b l S m) ∧ Hid (Own wr w.heap.size pT 3 al D.length (infs D)) ∧ Hid (Below w.heap.size w wr)) (fun _ i _ => n - (intOf i).toNat)
  case atStart => exact ⟨0, [], ⟨0, 0, 0, false, false⟩, Nat.zero_le _, rfl, by simp, ⟨GI.new, by simp⟩, HM, Own.nil _ _ _ _, HB1⟩
  case round =>
    obtain ⟨k, D, m, hk, rfl, hDk, HG, HR, HA, HB⟩ := hrel
    by_cases hlt : k < n
    · obtain ⟨ad, rfl, hab, h0, h1, h2⟩ := op_at (HS.out.below HB.out) hlt HT.out
      have hb2 : (ad.add (k * 3)).block < wr.heap.size := Nat.lt_of_lt_of_le hab HB.out.size
      have hkT : k < T.length := by rw [HT.out]; exact hlt
      generalize T[k] = o at h0 h1 h2
      obtain ⟨ok, on, oo⟩ := o
      simp only at h0 h1 h2
      by_cases k1 : ok = 1
      · subst k1
        obtain ⟨r, hr⟩ : ∃ r, r = addR S m on := ⟨_, rfl⟩
        have HRL := hide (show r.ps.length ≤ 1 by rw [hr]; exact (addR_fr S m on HG.out.1.f0).2)
        have HRG := hide (show GI (D ++ r.ps) r.m ∧ r.m.fr ≤ 1000 * k + 1000 by rw [hr]; exact ⟨HG.out.1.add S on, by have h8 := (addR_fr S m on HG.out.1.f0).1; have h9 := HG.out.2; omega⟩)
        have HAD := hide ((add_any (wr.alloc (.cells #[.int .i64 1, .int .i64 on, .bool oo] 52)) b l S m on (HR.out.alloc _) HG.out.1 (by have := HG.out.2; omega) (by have := HG.out.1.n; omega)))
        rw [← hr] at HAD
        clear hr
        go_wp2_with fail
        refine (HAD.out).mono ?_
        rintro e w2 ⟨lv, rfl, ho, hm, hf⟩
        have HA2 := hide ((HA.out.alloc (.cells #[.int .i64 1, .int .i64 on, .bool oo] 52)).fr hf (fun g hg hg' => by
          rcases hg' with h9 | h9
          · rw [h9] at hg; exact (HA.out.ne HR.out.1 (by decide)) hg
          · rw [h9] at hg; exact (HA.out.ne HR.out.2 (by decide)) hg))
        have HB2 := hide ((HB.out.alloc HB.out.size _).trans (hf.away (B := w.heap.size) (by omega) (by omega) (by have := HB.out.size; simp; omega)))
        have HM2 := hide hm
        have HO := hide ho.sl
        clear hm hf ho
        have hkey : r.ps.length + D.length ≤ k + 1 := by have := HRL.out; omega
        go_wp2_with (at_builtin; refine wpList_app rfl tyP10 (.tmp 65) (.tmp 66) rfl w.heap.size (n := D.length) (m := r.ps.length) (B := w2.heap.size) (xs := infs D) (news := infs r.ps) rfl rfl HA2.out HO.out (infs_ok _) (by omega) (by omega) HB2.out.size ?_)
        intro v6 w6 ha
        have HM6 := hide (HM2.out.fr ha.fr (fun h9 => (HA2.out.ne HM2.out.1 (by decide)) h9) (fun h9 => (HA2.out.ne HM2.out.2 (by decide)) h9))
        have HB6 := hide (HB2.out.trans (ha.fr.below HB2.out.size (fun k hk h => by have := (HA2.out.lt k h).1; omega)))
        have HA6 : Hid (Own w6 w.heap.size pT 3 v6 (D ++ r.ps).length (infs (D ++ r.ps))) := by
          have h9 := ha.own
          rw [show infs (D ++ r.ps) = infs D ++ infs r.ps by simp [infs], List.length_append]
          exact h9
        clear ha
        go_wp2_with fail
        go_roundw
        case rel => exact ⟨k + 1, D ++ r.ps, r.m, by omega, by simp, by rw [List.length_append]; omega, ⟨HRG.out.1, by have := HRG.out.2; push_cast; omega⟩, HM6, HA6, HB6⟩
        case measure => simp [intOf]; omega

      by_cases k2 : ok = 2
      · subst k2
        obtain ⟨r, hr⟩ : ∃ r, r = passR S m := ⟨_, rfl⟩
        have HRL := hide (show r.ps.length ≤ 1 by rw [hr]; exact (passR_fr S m HG.out.1.f0).2)
        have HRG := hide (show GI (D ++ r.ps) r.m ∧ r.m.fr ≤ 1000 * k + 1000 by rw [hr]; exact ⟨HG.out.1.pass S, by have h8 := (passR_fr S m HG.out.1.f0).1; have h9 := HG.out.2; omega⟩)
        have HAD := hide ((pass_any (wr.alloc (.cells #[.int .i64 2, .int .i64 on, .bool oo] 52)) b l S m (HR.out.alloc _) HG.out.1 (by have := HG.out.1.n; omega)))
        rw [← hr] at HAD
        clear hr k1
        go_wp2_with fail
        refine (HAD.out).mono ?_
        rintro e w2 ⟨lv, rfl, ho, hm, hf⟩
        have HA2 := hide ((HA.out.alloc (.cells #[.int .i64 2, .int .i64 on, .bool oo] 52)).fr hf (fun g hg hg' => by
          rcases hg' with h9 | h9
          · rw [h9] at hg; exact (HA.out.ne HR.out.1 (by decide)) hg
          · rw [h9] at hg; exact (HA.out.ne HR.out.2 (by decide)) hg))
        have HB2 := hide ((HB.out.alloc HB.out.size _).trans (hf.away (B := w.heap.size) (by omega) (by omega) (by have := HB.out.size; simp; omega)))
        have HM2 := hide hm
        have HO := hide ho.sl
        clear hm hf ho
        have hkey : r.ps.length + D.length ≤ k + 1 := by have := HRL.out; omega
        go_wp2_with (at_builtin; refine wpList_app rfl tyP10 (.tmp 65) (.tmp 66) rfl w.heap.size (n := D.length) (m := r.ps.length) (B := w2.heap.size) (xs := infs D) (news := infs r.ps) rfl rfl HA2.out HO.out (infs_ok _) (by omega) (by omega) HB2.out.size ?_)
        intro v6 w6 ha
        have HM6 := hide (HM2.out.fr ha.fr (fun h9 => (HA2.out.ne HM2.out.1 (by decide)) h9) (fun h9 => (HA2.out.ne HM2.out.2 (by decide)) h9))
        have HB6 := hide (HB2.out.trans (ha.fr.below HB2.out.size (fun k hk h => by have := (HA2.out.lt k h).1; omega)))
        have HA6 : Hid (Own w6 w.heap.size pT 3 v6 (D ++ r.ps).length (infs (D ++ r.ps))) := by
          have h9 := ha.own
          rw [show infs (D ++ r.ps) = infs D ++ infs r.ps by simp [infs], List.length_append]
          exact h9
        clear ha
        go_wp2_with fail
        go_roundw
        case rel => exact ⟨k + 1, D ++ r.ps, r.m, by omega, by simp, by rw [List.length_append]; omega, ⟨HRG.out.1, by have := HRG.out.2; push_cast; omega⟩, HM6, HA6, HB6⟩
        case measure => simp [intOf]; omega

      by_cases k3 : ok = 3
      · subst k3
        obtain ⟨r, hr⟩ : ∃ r, r = closeR m := ⟨_, rfl⟩
        have HRL := hide (show r.ps.length ≤ 1 by rw [hr]; exact (closeR_fr m HG.out.1.f0).2)
        have HRG := hide (show GI (D ++ r.ps) r.m ∧ r.m.fr ≤ 1000 * k + 1000 by rw [hr]; exact ⟨HG.out.1.close, by have h8 := (closeR_fr m HG.out.1.f0).1; have h9 := HG.out.2; omega⟩)
        have HAD := hide ((close_any (wr.alloc (.cells #[.int .i64 3, .int .i64 on, .bool oo] 52)) b l S m (HR.out.alloc _) HG.out.1 (by have := HG.out.1.n; omega)))
        rw [← hr] at HAD
        clear hr k1 k2
        go_wp2_with fail
        refine (HAD.out).mono ?_
        rintro e w2 ⟨lv, rfl, ho, hm, hf⟩
        have HA2 := hide ((HA.out.alloc (.cells #[.int .i64 3, .int .i64 on, .bool oo] 52)).fr hf (fun g hg hg' => by
          rcases hg' with h9 | h9
          · rw [h9] at hg; exact (HA.out.ne HR.out.1 (by decide)) hg
          · rw [h9] at hg; exact (HA.out.ne HR.out.2 (by decide)) hg))
        have HB2 := hide ((HB.out.alloc HB.out.size _).trans (hf.away (B := w.heap.size) (by omega) (by omega) (by have := HB.out.size; simp; omega)))
        have HM2 := hide hm
        have HO := hide ho.sl
        clear hm hf ho
        have hkey : r.ps.length + D.length ≤ k + 1 := by have := HRL.out; omega
        go_wp2_with (at_builtin; refine wpList_app rfl tyP10 (.tmp 65) (.tmp 66) rfl w.heap.size (n := D.length) (m := r.ps.length) (B := w2.heap.size) (xs := infs D) (news := infs r.ps) rfl rfl HA2.out HO.out (infs_ok _) (by omega) (by omega) HB2.out.size ?_)
        intro v6 w6 ha
        have HM6 := hide (HM2.out.fr ha.fr (fun h9 => (HA2.out.ne HM2.out.1 (by decide)) h9) (fun h9 => (HA2.out.ne HM2.out.2 (by decide)) h9))
        have HB6 := hide (HB2.out.trans (ha.fr.below HB2.out.size (fun k hk h => by have := (HA2.out.lt k h).1; omega)))
        have HA6 : Hid (Own w6 w.heap.size pT 3 v6 (D ++ r.ps).length (infs (D ++ r.ps))) := by
          have h9 := ha.own
          rw [show infs (D ++ r.ps) = infs D ++ infs r.ps by simp [infs], List.length_append]
          exact h9
        clear ha
        go_wp2_with fail
        go_roundw
        case rel => exact ⟨k + 1, D ++ r.ps, r.m, by omega, by simp, by rw [List.length_append]; omega, ⟨HRG.out.1, by have := HRG.out.2; push_cast; omega⟩, HM6, HA6, HB6⟩
        case measure => simp [intOf]; omega

      · have e1 : (ok == 1) = false := by simpa using k1
        have e2 : (ok == 2) = false := by simpa using k2
        have e3 : (ok == 3) = false := by simpa using k3
        clear k1 k2 k3
        obtain ⟨r, hr⟩ : ∃ r : Res, r = ⟨[], 0, m⟩ := ⟨_, rfl⟩
        have HRL := hide (show r.ps.length ≤ 1 by rw [hr]; simp)
        have HRG := hide (show GI (D ++ r.ps) r.m ∧ r.m.fr ≤ 1000 * k + 1000 by rw [hr]; exact ⟨HG.out.1.same, by have h9 := HG.out.2; show m.fr ≤ _; omega⟩)
        obtain ⟨w2, hw2⟩ : ∃ w2, w2 = wr.alloc (.cells #[.int .i64 ok, .int .i64 on, .bool oo] 52) := ⟨_, rfl⟩
        have HA2 := hide (HA.out.alloc (.cells #[.int .i64 ok, .int .i64 on, .bool oo] 52))
        rw [← hw2] at HA2
        have HB2 := hide (show Below w.heap.size w w2 by rw [hw2]; exact HB.out.alloc HB.out.size _)
        have HM2 := hide (show MR w2 b l S r.m by rw [hw2, hr]; exact HR.out.alloc _)
        have HO := hide (show Sl w2 w2.heap.size (.slice none 0 0) 3 r.ps.length (infs r.ps) by rw [hr]; exact Sl.nil _ _ _)
        have HW2 := hide hw2
        clear hw2 hr
        have hkey : r.ps.length + D.length ≤ k + 1 := by have := HRL.out; omega
        go_wp2_with (at_builtin; rw [← HW2.out]; refine wpList_app rfl tyP10 (.tmp 65) (.tmp 66) rfl w.heap.size (n := D.length) (m := r.ps.length) (B := w2.heap.size) (xs := infs D) (news := infs r.ps) rfl rfl HA2.out HO.out (infs_ok _) (by omega) (by omega) HB2.out.size ?_)
        intro v6 w6 ha
        have HM6 := hide (HM2.out.fr ha.fr (fun h9 => (HA2.out.ne HM2.out.1 (by decide)) h9) (fun h9 => (HA2.out.ne HM2.out.2 (by decide)) h9))
        have HB6 := hide (HB2.out.trans (ha.fr.below HB2.out.size (fun k hk h => by have := (HA2.out.lt k h).1; omega)))
        have HA6 : Hid (Own w6 w.heap.size pT 3 v6 (D ++ r.ps).length (infs (D ++ r.ps))) := by
          have h9 := ha.own
          rw [show infs (D ++ r.ps) = infs D ++ infs r.ps by simp [infs], List.length_append]
          exact h9
        clear ha
        go_wp2_with fail
        go_roundw
        case rel => exact ⟨k + 1, D ++ r.ps, r.m, by omega, by simp, by rw [List.length_append]; omega, ⟨HRG.out.1, by have := HRG.out.2; push_cast; omega⟩, HM6, HA6, HB6⟩
        case measure => simp [intOf]; omega

    · have hkn : k = n := by omega
      subst hkn
      obtain ⟨aA, ac, rfl, hac⟩ := HA.out.sl.form
      have hcon := HG.out.1.on
      have hgn := HG.out.1.n
      have HON : Hid (cnt D = if m.ps = true then 1 else 0) := hcon
      have HP : Hid (pgood 0 0 D = D.length) := pgood_all D 0 0 _ _ HG.out.1.run
      have HC : Hid (chkErr D = 0) := by simp [Hid, chkErr, HP.out]
      clear hcon
      go_wp2_with fail
      refine (check_any _ D D.length wr HA.out.sl rfl (by omega)).mono ?_
      rintro e w2 ⟨rfl, hb9⟩
      rw [HP.out, HC.out]
      have HB2 := hide (HB.out.trans (hb9.mono HB.out.size))
      have HR2 := hide (HR.out.below hb9)
      have HA2 := hide (HA.out.below hb9)
      clear hb9
      go_wp2_with fail
      obtain ⟨wo, rfl⟩ : ∃ wo : World, wo = w2 := ⟨_, rfl⟩
      go_loopw [13, 76] (fun on i wr => ∃ (j : Nat), j ≤ D.length ∧ i = .int .i64 j ∧ on = .int .i64 (cnt (D.take j)) ∧ cnt (D.take j) ≤ j ∧ Hid (Below wo.heap.size wo wr)) (fun _ i _ => D.length - (intOf i).toNat)
      case atStart => exact ⟨0, Nat.zero_le _, rfl, rfl, Nat.le_refl _, Below.refl _ _⟩
      case round =>
        obtain ⟨j, hj, rfl, rfl, hcj, HBJ⟩ := hrel
        by_cases hlj : j < D.length
        · obtain ⟨ad, rfl, hab, h0, h1, h2⟩ := inf_at (HA2.out.sl.below HBJ.out) hlj rfl
          have hb2 : (ad.add (j * 3)).block < wr.heap.size := Nat.lt_of_lt_of_le hab HBJ.out.size
          have HCS := hide (cnt_succ D j hlj)
          generalize D[j] = p at h0 h1 h2 HCS
          obtain ⟨pi, pt, pl⟩ := p
          simp only at h0 h1 h2
          by_cases hp1 : pt = 1
          · subst hp1
            have HCS' : Hid (cnt (D.take (j + 1)) = cnt (D.take j) + 1) := by rw [HCS.out]; rfl
            go_wp2_with fail
            go_roundw
            case rel => exact ⟨j + 1, by omega, by simp, by rw [HCS'.out]; simp, by rw [HCS'.out]; omega, HBJ.out.alloc HBJ.out.size _⟩
            case measure => simp [intOf]; omega
          · have e1 : (pt == 1) = false := by simpa using hp1
            have HCS' : Hid (cnt (D.take (j + 1)) = cnt (D.take j)) := by rw [HCS.out, if_neg hp1]; rfl
            clear hp1
            go_wp2_with fail
            go_roundw
            case rel => exact ⟨j + 1, by omega, by simp, by rw [HCS'.out], by rw [HCS'.out]; omega, HBJ.out.alloc HBJ.out.size _⟩
            case measure => simp [intOf]; omega
        · have hjn : j = D.length := by omega
          subst hjn
          rw [List.take_of_length_le (Nat.le_refl _)] at hcj ⊢
          have hend := HG.out.1.end_
          obtain ⟨mn, mst, mfr, mps, mcl⟩ := m
          simp only at hgn hend
          subst hgn
          have HR3 := hide (HR2.out.below HBJ.out)
          have HB3 := hide (HB2.out.trans (HBJ.out.mono HB2.out.size))
          go_wp2_with fail
          refine (state_any _ b l S _ HR3.out).mono ?_
          rintro e w5 ⟨rfl, hb9⟩
          have HB5 := hide (HB3.out.trans (hb9.mono HB3.out.size))
          clear hb9
          simp only [stVal]
          have HON' : Hid (cnt D = if mps = true then 1 else 0) := HON
          cases mps
          · have hc0 : cnt D = 0 := by rw [HON'.out]; rfl
            rw [hc0]
            cases mcl
            · clear hend
              go_wp2_with fail
              refine (awake10 _).mono ?_
              rintro e w6 ⟨rfl, hb9⟩
              have HB6 := hide ((HB5.out.alloc HB5.out.size _).trans (hb9.mono (by have := HB5.out.size; simp; omega)))
              clear hb9
              go_wp2_with fail
              go_ret
              exact ⟨rfl, HB6.out⟩
            · obtain rfl : mfr = 0 := hend rfl
              clear hend
              go_wp2_with fail
              refine (awake10 _).mono ?_
              rintro e w6 ⟨rfl, hb9⟩
              have HB6 := hide ((HB5.out.alloc HB5.out.size _).trans (hb9.mono (by have := HB5.out.size; simp; omega)))
              clear hb9
              go_wp2_with fail
              go_ret
              exact ⟨rfl, HB6.out⟩
          · have hc0 : cnt D = 1 := by rw [HON'.out]; rfl
            rw [hc0]
            cases mcl
            · clear hend
              go_wp2_with fail
              refine (awake10 _).mono ?_
              rintro e w6 ⟨rfl, hb9⟩
              have HB6 := hide ((HB5.out.alloc HB5.out.size _).trans (hb9.mono (by have := HB5.out.size; simp; omega)))
              clear hb9
              go_wp2_with fail
              go_ret
              exact ⟨rfl, HB6.out⟩
            · obtain rfl : mfr = 0 := hend rfl
              clear hend
              go_wp2_with fail
              refine (awake10 _).mono ?_
              rintro e w6 ⟨rfl, hb9⟩
              have HB6 := hide ((HB5.out.alloc HB5.out.size _).trans (hb9.mono (by have := HB5.out.size; simp; omega)))
              clear hb9
              go_wp2_with fail
              go_ret
              exact ⟨rfl, HB6.out⟩

end Go.Proofs.Ytghkkekebjhjlaa
