/- ShuffleAll returns true, where what comes in is of bulk at most 1048576. -/
import Derived.Test.YtlaijnabdlidiaaLaw17a
namespace Go.Proofs.Ytlaijnabdlidiaa
open Go.RowKit
set_option linter.unusedVariables false
set_option linter.unusedSimpArgs false

/-- a call that a script tells -/
structure SOp where
  k : Int
  n : Int
  v : Value
  it : List Itm
def SOp.cells (o : SOp) : List Value := [.int .i64 o.k, .int .i64 o.n, o.v]
theorem SOp.cells3 (o : SOp) : o.cells.length = 3 := rfl
def sops (D : List SOp) : List Value := D.flatMap SOp.cells
theorem sop_at {w : World} {B n c : Nat} {A : Option Addr} {D : List SOp} (h : Sl w B (.slice A n c) 3 n (sops D)) {k : Nat} (hk : k < n) (hD : D.length = n) :
    ∃ ad, A = some ad ∧ (ad.add (k * 3)).block < B ∧ w.cell? (ad.add (k * 3)) = some (.int .i64 (D[k]'(by omega)).k) ∧
      w.cell? ⟨(ad.add (k * 3)).block, (ad.add (k * 3)).off + 1, none⟩ = some (.int .i64 (D[k]'(by omega)).n) ∧
      w.cell? ⟨(ad.add (k * 3)).block, (ad.add (k * 3)).off + 2, none⟩ = some (D[k]'(by omega)).v := by
  obtain ⟨ad, rfl, hb, hh⟩ := h.at_ hk
  rw [sops, part_of _ 3 SOp.cells3 D k (by omega)] at hh
  refine ⟨ad, rfl, by rw [add_blk]; exact hb, ?_, ?_, ?_⟩
  · have := hh 0 _ rfl
    rwa [add_add'] at this
  · have := hh 1 _ rfl
    rwa [add_fld _ _ 1 (by omega)] at this
  · have := hh 2 _ rfl
    rwa [add_fld _ _ 2 (by omega)] at this
/-- how many items a script pushes at the most -/
def tot (D : List SOp) : Nat := (D.map fun o => o.it.length).sum
theorem tot_snoc (D : List SOp) (o : SOp) : tot (D ++ [o]) = tot D + o.it.length := by simp [tot]
theorem tot_take (D : List SOp) (k : Nat) : tot (D.take k) ≤ tot D := by
  have h : tot D = tot (D.take k) + tot (D.drop k) := by
    rw [tot, tot, tot, ← List.sum_append, ← List.map_append, List.take_append_drop]
  omega

theorem len_pos {α : Type} {l : List α} (h : ¬ 0 < l.length) : l = [] := List.length_eq_zero_iff.1 (by omega)

set_option maxHeartbeats 1000000 in
theorem settle17_back (w : World) (base b : Nat) (F : Nat → Prop) (W Bn : List Itm) (p : Int) (h : QR w base b F W Bn p) (hp : 0 < Bn.length) (hn : Bn.length + W.length ≤ 8796093022207) (hbase : base ≤ w.heap.size) :
    Calls Try.prog 12 #[.pointer (some ⟨b, 0, none⟩), .bool true] w (QPost w base b F (.tuple #[.int .i64 Bn.length, .int .i64 0]) (Bn ++ W) [] p) := by
  have HQ := hide h
  clear h
  go_enter Try.func12, Try.ntmps12
  go_wp2_with fail
  refine (nack_yes _ _ _ _ _ _ _ HQ.out hp hn hbase).mono ?_
  rintro e w1 ⟨F1, rfl, hq⟩
  have HQ1 := hide hq
  clear hq
  go_wp2_with fail
  go_ret2
  exact ⟨F1, rfl, HQ1.out⟩
set_option maxHeartbeats 1000000 in
theorem settle17_backno (w : World) (base b : Nat) (F : Nat → Prop) (W : List Itm) (p : Int) (h : QR w base b F W [] p) (hn : W.length ≤ 8796093022207) (hbase : base ≤ w.heap.size) :
    Calls Try.prog 12 #[.pointer (some ⟨b, 0, none⟩), .bool true] w (QPost w base b F (.tuple #[.int .i64 0, .int .i64 171]) W [] p) := by
  have HQ := hide h
  clear h
  go_enter Try.func12, Try.ntmps12
  go_wp2_with fail
  refine (nack_no _ _ _ _ _ _ HQ.out hn hbase).mono ?_
  rintro e w1 ⟨F1, rfl, hq⟩
  have HQ1 := hide hq
  clear hq
  go_wp2_with fail
  go_ret2
  exact ⟨F1, rfl, HQ1.out⟩
set_option maxHeartbeats 1000000 in
theorem settle17_gone (w : World) (base b : Nat) (F : Nat → Prop) (W Bn : List Itm) (p : Int) (h : QR w base b F W Bn p) (hb : 0 < Bn.length) (hb2 : Bn.length ≤ 4611686018427387904) (hp : 0 ≤ p) (hp2 : p ≤ 2305843009213693952) :
    Calls Try.prog 12 #[.pointer (some ⟨b, 0, none⟩), .bool false] w (QPost w base b F (.tuple #[.int .i64 Bn.length, .int .i64 0]) W [] (p + Bn.length)) := by
  have HQ := hide h
  clear h
  go_enter Try.func12, Try.ntmps12
  go_wp2_with fail
  refine (ack_yes _ _ _ _ _ _ _ HQ.out hb hb2 hp hp2).mono ?_
  rintro e w1 ⟨F1, rfl, hq⟩
  have HQ1 := hide hq
  clear hq
  go_wp2_with fail
  go_ret2
  exact ⟨F1, rfl, HQ1.out⟩
set_option maxHeartbeats 1000000 in
theorem settle17_goneno (w : World) (base b : Nat) (F : Nat → Prop) (W : List Itm) (p : Int) (h : QR w base b F W [] p) (hp : 0 ≤ p) (hp2 : p ≤ 2305843009213693952) :
    Calls Try.prog 12 #[.pointer (some ⟨b, 0, none⟩), .bool false] w (QPost w base b F (.tuple #[.int .i64 0, .int .i64 171]) W [] p) := by
  have HQ := hide h
  clear h
  go_enter Try.func12, Try.ntmps12
  go_wp2_with fail
  refine (ack_no _ _ _ _ _ _ HQ.out hp (by omega)).mono ?_
  rintro e w1 ⟨F1, rfl, hq⟩
  have HQ1 := hide hq
  clear hq
  go_wp2_with fail
  go_ret2
  exact ⟨F1, rfl, HQ1.out⟩

set_option maxRecDepth 100000 in
set_option maxHeartbeats 16000000 in
theorem all_walk0 (v : Value) (T : List SOp) (w : World) (hs : Sl w w.heap.size v 3 T.length (sops T)) (hT : ∀ o ∈ T, Sl w w.heap.size o.v 2 o.it.length (its o.it)) (hb : tot T ≤ 1048576) :
    Calls Try.prog 3 #[v] w fun e w' => e = .returned (.bool true) ∧ Below w.heap.size w w' := by
  obtain ⟨A, c, rfl, hnc⟩ := hs.form
  have hmax := hs.max
  have HS := hide hs
  have HT := hide hT
  clear hs hT
  by_cases hbig : 500 < T.length
  · go_enter Try.func3, Try.ntmps3
    go_wp2_with fail
    refine (qnew_any _ w.heap.size (Nat.le_refl _)).mono ?_
    rintro e w1 ⟨rfl, hq, rfl⟩
    clear hq
    go_wp2_with fail
    refine (awake17 _).mono ?_
    rintro e w2 ⟨rfl, hb⟩
    have HB := hide hb
    clear hb
    go_wp2_with fail
    go_ret
    exact ⟨rfl, ((Below.refl _ _).alloc (Nat.le_refl _) _).trans (HB.out.mono (by simp))⟩
  · go_enter Try.func3, Try.ntmps3
    go_wp2_with fail
    refine (qnew_any _ w.heap.size (Nat.le_refl _)).mono ?_
    rintro e w1 ⟨rfl, hq, rfl⟩
    have HQ := hide hq
    clear hq
    go_wp2_with fail
    go_loopw [4, 5, 27] (fun pu bu i wr => ∃ (k P : Nat) (W Bn : List Itm) (p : Nat) (F : Nat → Prop), k ≤ T.length ∧ i = .int .i64 k ∧ pu = .int .i64 P ∧ bu = .int .i64 Bn.length ∧ P ≤ 1048576 ∧ p + Bn.length + W.length = P ∧ Hid (P ≤ tot (T.take k)) ∧
      Hid (QR wr w.heap.size w.heap.size F W Bn p) ∧ Hid (Below w.heap.size w wr)) (fun _ _ i _ => T.length - (intOf i).toNat)
    case atStart => exact ⟨0, 0, [], [], 0, _, Nat.zero_le _, rfl, rfl, rfl, by omega, rfl, Nat.zero_le _, HQ, (Below.refl _ _).alloc (Nat.le_refl _) _⟩
    case round =>
      obtain ⟨k, P, W, Bn, p, F, hk, rfl, rfl, rfl, hP, hsum, HP, HQ, HB⟩ := hrel
      by_cases hlt : k < T.length
      · obtain ⟨ad, he, hbk, h0, h1, h2⟩ := sop_at (HS.out.below HB.out) hlt rfl
        obtain rfl := he
        have hb2 : (ad.add (k * 3)).block < wr.heap.size := Nat.lt_of_lt_of_le hbk HB.out.size
        have HI := hide (HT.out T[k] (List.getElem_mem hlt))
        have HU : Hid (tot (T.take (k + 1)) = tot (T.take k) + T[k].it.length) := by
          show _ = _
          rw [List.take_succ_eq_append_getElem hlt, tot_snoc]
        have hP2 : P + T[k].it.length ≤ 1048576 := by
          have h3 := tot_take T (k + 1)
          have h4 := HU.out
          have h5 := HP.out
          omega
        generalize T[k] = o at h0 h1 h2 HI HU hP2
        obtain ⟨ok, on, ov, oi⟩ := o
        simp only at h0 h1 h2 HI HU hP2
        obtain ⟨oA, oc, rfl, hoc⟩ := HI.out.form
        have HSUM := hide hsum
        have hp3 : p ≤ 1048576 := by omega
        have hp4 : Bn.length ≤ 1048576 := by omega
        have hp5 : W.length ≤ 1048576 := by omega
        have hp6 : Bn.length + W.length ≤ 1048576 := by omega
        clear hsum
        have HPS : Hid (P ≤ tot (T.take (k + 1))) := by
          show _ ≤ _
          have h3 := HU.out
          have h4 := HP.out
          omega
        by_cases k1 : ok = 1
        · subst k1
          go_wp2_with fail
          go_at_call 10
          refine (push_any _ oi oi.length _ _ w.heap.size w.heap.size F W Bn p (HQ.out.alloc _) ((HI.out.below HB.out).alloc HB.out.size _) rfl (by omega) (by have := HB.out.size; simp; omega)).mono ?_
          rintro e w2 ⟨F2, rfl, hq, hf, hsub⟩
          have HB2 := hide ((HB.out.alloc HB.out.size _).trans ((HQ.out.alloc _).apart hf (by have := HB.out.size; simp; omega)))
          have HQ2 := hide hq
          have HP2 : Hid (P + oi.length ≤ tot (T.take (k + 1))) := by
            show _ ≤ _
            have h3 := HU.out
            have h4 := HP.out
            omega
          clear hq hf hsub
          go_wp2_with fail
          go_at_call 13
          refine (qpassed_any _ _ _ _ _ _ _ HQ2.out).mono ?_
          rintro e w8 ⟨rfl, rfl⟩
          go_wp2_with fail
          go_at_call 14
          refine (qlen_any _ _ _ _ _ _ _ HQ2.out).mono ?_
          rintro e w8 ⟨rfl, rfl⟩
          have e9 : ((((p : Int) + Bn.length + (W.length + oi.length)) : Int) != ((P : Int) + oi.length)) = false := by have h9 := HSUM.out; (try simp only [List.length_nil] at h9); simp; omega
          go_wp2_with fail
          go_roundw
          case rel => exact ⟨k + 1, P + oi.length, W ++ oi, Bn, p, F2, by omega, by go_num, by go_num, by first | rfl | go_num, by omega, by have := HSUM.out; simp; omega, HP2, HQ2, HB2⟩
          case measure => simp [intOf]; omega
        · have kk1 : (ok == 1) = false := by simpa using k1
          by_cases k2 : ok = 2
          · subst k2
            clear k1 kk1
            by_cases hBn : 0 < Bn.length
            · go_wp2_with fail
              go_at_call 11
              refine (take_busy _ _ _ _ W Bn p on (HQ.out.alloc _) hBn).mono ?_
              rintro e w2 ⟨rfl, rfl⟩
              have HQ2 := hide (HQ.out.alloc (.cells #[.int .i64 2, .int .i64 on, .slice oA oi.length oc] 31))
              have HB2 := hide (HB.out.alloc HB.out.size (.cells #[.int .i64 2, .int .i64 on, .slice oA oi.length oc] 31))
              go_wp2_with fail
              go_at_call 13
              refine (qpassed_any _ _ _ _ _ _ _ HQ2.out).mono ?_
              rintro e w8 ⟨rfl, rfl⟩
              go_wp2_with fail
              go_at_call 14
              refine (qlen_any _ _ _ _ _ _ _ HQ2.out).mono ?_
              rintro e w8 ⟨rfl, rfl⟩
              have e9 : ((((p : Int) + Bn.length + W.length) : Int) != (P : Int)) = false := by have h9 := HSUM.out; (try simp only [List.length_nil] at h9); simp; omega
              go_wp2_with fail
              go_roundw
              case rel => exact ⟨k + 1, P, W, Bn, p, F, by omega, by go_num, by go_num, by first | rfl | go_num, by omega, by have := HSUM.out; omega, HPS, HQ2, HB2⟩
              case measure => simp [intOf]; omega
            · have hB0 := len_pos hBn
              subst hB0
              clear hBn
              by_cases hno : on < 1 ∨ W.length = 0
              · go_wp2_with fail
                go_at_call 11
                refine (take_none _ _ _ _ W p on (HQ.out.alloc _) hno).mono ?_
                rintro e w2 ⟨rfl, rfl⟩
                clear hno
                have HQ2 := hide (HQ.out.alloc (.cells #[.int .i64 2, .int .i64 on, .slice oA oi.length oc] 31))
                have HB2 := hide (HB.out.alloc HB.out.size (.cells #[.int .i64 2, .int .i64 on, .slice oA oi.length oc] 31))
                go_wp2_with fail
                go_at_call 13
                refine (qpassed_any _ _ _ _ _ _ _ HQ2.out).mono ?_
                rintro e w8 ⟨rfl, rfl⟩
                go_wp2_with fail
                go_at_call 14
                refine (qlen_any _ _ _ _ _ _ _ HQ2.out).mono ?_
                rintro e w8 ⟨rfl, rfl⟩
                have e9 : ((((p : Int) + W.length) : Int) != (P : Int)) = false := by have h9 := HSUM.out; (try simp only [List.length_nil] at h9); simp; omega
                go_wp2_with fail
                go_roundw
                case rel => exact ⟨k + 1, P, W, [], p, F, by omega, by go_num, by go_num, by first | rfl | go_num, by omega, by have := HSUM.out; simpa using this, HPS, HQ2, HB2⟩
                case measure => simp [intOf]; omega
              · obtain ⟨m, hm1, hm2, hm3⟩ : ∃ m : Nat, 1 ≤ m ∧ m ≤ W.length ∧ (on = m ∨ (W.length < on ∧ m = W.length)) := by
                  by_cases h9 : on ≤ W.length
                  · exact ⟨on.toNat, by omega, by omega, .inl (by omega)⟩
                  · exact ⟨W.length, by omega, by omega, .inr ⟨by omega, rfl⟩⟩
                have HM := hide hm3
                clear hno hm3
                go_wp2_with fail
                go_at_call 11
                refine (take_some _ _ _ _ W m p on (HQ.out.alloc _) hm1 hm2 HM.out (by omega) (by have := HB.out.size; simp; omega)).mono ?_
                rintro e w4 ⟨v4, F4, rfl, hq, ho, hfr, hf, hsub⟩
                obtain ⟨A4, c4, rfl, hc4⟩ := ho.sl.form
                have HQ4 := hide hq
                have HB4 := hide ((HB.out.alloc HB.out.size _).trans ((HQ.out.alloc _).apart hf (by have := HB.out.size; simp; omega)))
                clear hq hf hsub ho hfr
                have hl1 : (W.take m).length = m := by rw [List.length_take]; omega
                have hl2 : (W.drop m).length = W.length - m := by rw [List.length_drop]
                have HL := hide (And.intro hl1 hl2)
                have hm0 : ((m : Int) == 0) = false := beq_eq_false_iff_ne.2 (by omega)
                clear hl1 hl2
                go_wp2_with fail
                go_at_call 13
                refine (qpassed_any _ _ _ _ _ _ _ HQ4.out).mono ?_
                rintro e w8 ⟨rfl, rfl⟩
                go_wp2_with fail
                go_at_call 14
                refine (qlen_any _ _ _ _ _ _ _ HQ4.out).mono ?_
                rintro e w8 ⟨rfl, rfl⟩
                rw [HL.out.2]
                obtain ⟨q, hq⟩ : ∃ q : Nat, q = W.length - m := ⟨_, rfl⟩
                rw [← hq]
                have hq3 : q ≤ 1048576 := by omega
                have e9 : (((p : Int) + m + q) != (P : Int)) = false := by have := HSUM.out; simp at this; simp; omega
                have HQQ := hide hq
                clear hq
                go_wp2_with fail
                go_roundw
                case rel => exact ⟨k + 1, P, W.drop m, W.take m, p, F4, by omega, by go_num, by go_num, by rw [HL.out.1], by omega, by have := HSUM.out; rw [HL.out.1, HL.out.2]; simp at this; omega, HPS, HQ4, HB4⟩
                case measure => simp [intOf]; omega
          · have kk2 : (ok == 2) = false := by simpa using k2
            by_cases k3 : ok = 3
            · subst k3
              clear k1 k2 kk1 kk2
              by_cases hBn : 0 < Bn.length
              · have hbb : ((Bn.length : Int) > 0) := by omega
                go_wp2_with fail
                go_at_call 12
                refine (settle17_gone _ _ _ _ W Bn p (HQ.out.alloc _) hBn (by omega) (by omega) (by omega)).mono ?_
                rintro e w2 ⟨F2, rfl, hq, hf, hsub⟩
                have HB2 := hide ((HB.out.alloc HB.out.size _).trans ((HQ.out.alloc _).apart hf (by have := HB.out.size; simp; omega)))
                have HQ2 : Hid (QR w2 w.heap.size w.heap.size F2 W [] ((p + Bn.length : Nat) : Int)) := hide hq
                clear hq hf hsub
                go_wp2_with fail
                go_at_call 13
                refine (qpassed_any _ _ _ _ _ _ _ HQ2.out).mono ?_
                rintro e w8 ⟨rfl, rfl⟩
                go_wp2_with fail
                go_at_call 14
                refine (qlen_any _ _ _ _ _ _ _ HQ2.out).mono ?_
                rintro e w8 ⟨rfl, rfl⟩
                have e9 : ((((p : Int) + Bn.length + W.length) : Int) != (P : Int)) = false := by have h9 := HSUM.out; (try simp only [List.length_nil] at h9); simp; omega
                go_wp2_with fail
                go_roundw
                case rel => exact ⟨k + 1, P, W, [], p + Bn.length, F2, by omega, by go_num, by go_num, by first | rfl | go_num, by omega, by have := HSUM.out; simpa using this, HPS, HQ2, HB2⟩
                case measure => simp [intOf]; omega
              · have hB0 := len_pos hBn
                subst hB0
                clear hBn
                go_wp2_with fail
                go_at_call 12
                refine (settle17_goneno _ _ _ _ W p (HQ.out.alloc _) (by omega) (by omega)).mono ?_
                rintro e w2 ⟨F2, rfl, hq, hf, hsub⟩
                have HB2 := hide ((HB.out.alloc HB.out.size _).trans ((HQ.out.alloc _).apart hf (by have := HB.out.size; simp; omega)))
                have HQ2 := hide hq
                clear hq hf hsub
                go_wp2_with fail
                go_at_call 13
                refine (qpassed_any _ _ _ _ _ _ _ HQ2.out).mono ?_
                rintro e w8 ⟨rfl, rfl⟩
                go_wp2_with fail
                go_at_call 14
                refine (qlen_any _ _ _ _ _ _ _ HQ2.out).mono ?_
                rintro e w8 ⟨rfl, rfl⟩
                have e9 : ((((p : Int) + W.length) : Int) != (P : Int)) = false := by have h9 := HSUM.out; (try simp only [List.length_nil] at h9); simp; omega
                go_wp2_with fail
                go_roundw
                case rel => exact ⟨k + 1, P, W, [], p, F2, by omega, by go_num, by go_num, by first | rfl | go_num, by omega, by have := HSUM.out; simpa using this, HPS, HQ2, HB2⟩
                case measure => simp [intOf]; omega
            · have kk3 : (ok == 3) = false := by simpa using k3
              by_cases k4 : ok = 4
              · subst k4
                clear k1 k2 k3 kk1 kk2 kk3
                by_cases hBn : 0 < Bn.length
                · go_wp2_with fail
                  go_at_call 12
                  refine (settle17_back _ _ _ _ W Bn p (HQ.out.alloc _) hBn (by omega) (by have := HB.out.size; simp; omega)).mono ?_
                  rintro e w2 ⟨F2, rfl, hq, hf, hsub⟩
                  have HB2 := hide ((HB.out.alloc HB.out.size _).trans ((HQ.out.alloc _).apart hf (by have := HB.out.size; simp; omega)))
                  have HQ2 := hide hq
                  clear hq hf hsub
                  go_wp2_with fail
                  go_at_call 13
                  refine (qpassed_any _ _ _ _ _ _ _ HQ2.out).mono ?_
                  rintro e w8 ⟨rfl, rfl⟩
                  go_wp2_with fail
                  go_at_call 14
                  refine (qlen_any _ _ _ _ _ _ _ HQ2.out).mono ?_
                  rintro e w8 ⟨rfl, rfl⟩
                  have e9 : ((((p : Int) + (Bn.length + W.length)) : Int) != (P : Int)) = false := by have h9 := HSUM.out; (try simp only [List.length_nil] at h9); simp; omega
                  go_wp2_with fail
                  go_roundw
                  case rel => exact ⟨k + 1, P, Bn ++ W, [], p, F2, by omega, by go_num, by go_num, by first | rfl | go_num, by omega, by have := HSUM.out; simp; omega, HPS, HQ2, HB2⟩
                  case measure => simp [intOf]; omega
                · have hB0 := len_pos hBn
                  subst hB0
                  clear hBn
                  go_wp2_with fail
                  go_at_call 12
                  refine (settle17_backno _ _ _ _ W p (HQ.out.alloc _) (by omega) (by have := HB.out.size; simp; omega)).mono ?_
                  rintro e w2 ⟨F2, rfl, hq, hf, hsub⟩
                  have HB2 := hide ((HB.out.alloc HB.out.size _).trans ((HQ.out.alloc _).apart hf (by have := HB.out.size; simp; omega)))
                  have HQ2 := hide hq
                  clear hq hf hsub
                  go_wp2_with fail
                  go_at_call 13
                  refine (qpassed_any _ _ _ _ _ _ _ HQ2.out).mono ?_
                  rintro e w8 ⟨rfl, rfl⟩
                  go_wp2_with fail
                  go_at_call 14
                  refine (qlen_any _ _ _ _ _ _ _ HQ2.out).mono ?_
                  rintro e w8 ⟨rfl, rfl⟩
                  have e9 : ((((p : Int) + W.length) : Int) != (P : Int)) = false := by have h9 := HSUM.out; (try simp only [List.length_nil] at h9); simp; omega
                  go_wp2_with fail
                  go_roundw
                  case rel => exact ⟨k + 1, P, W, [], p, F2, by omega, by go_num, by go_num, by first | rfl | go_num, by omega, by have := HSUM.out; simpa using this, HPS, HQ2, HB2⟩
                  case measure => simp [intOf]; omega
              · have kk4 : (ok == 4) = false := by simpa using k4
                clear k1 k2 k3 k4
                have HQ2 := hide (HQ.out.alloc (.cells #[.int .i64 ok, .int .i64 on, .slice oA oi.length oc] 31))
                have HB2 := hide (HB.out.alloc HB.out.size (.cells #[.int .i64 ok, .int .i64 on, .slice oA oi.length oc] 31))
                go_wp2_with fail
                go_at_call 13
                refine (qpassed_any _ _ _ _ _ _ _ HQ2.out).mono ?_
                rintro e w8 ⟨rfl, rfl⟩
                go_wp2_with fail
                go_at_call 14
                refine (qlen_any _ _ _ _ _ _ _ HQ2.out).mono ?_
                rintro e w8 ⟨rfl, rfl⟩
                have e9 : ((((p : Int) + Bn.length + W.length) : Int) != (P : Int)) = false := by have h9 := HSUM.out; (try simp only [List.length_nil] at h9); simp; omega
                go_wp2_with fail
                go_roundw
                case rel => exact ⟨k + 1, P, W, Bn, p, F, by omega, by go_num, by go_num, by first | rfl | go_num, by omega, by have := HSUM.out; omega, HPS, HQ2, HB2⟩
                case measure => simp [intOf]; omega
      · go_wp2_with fail
        refine (awake17 _).mono ?_
        rintro e w7 ⟨rfl, hb⟩
        have HB7 := hide hb
        clear hb
        go_wp2_with fail
        go_ret
        exact ⟨rfl, HB.out.trans (HB7.out.mono HB.out.size)⟩

theorem all_walk (z : Value × List SOp) (w : World) (h : Sl w w.heap.size z.1 3 z.2.length (sops z.2) ∧ z.2.length * 40 ≤ 140737488351232 ∧ ∀ o ∈ z.2, Sl w w.heap.size o.v 2 o.it.length (its o.it)) (hb : tot z.2 ≤ 1048576) :
    Calls Try.prog 3 #[z.1] w fun e w' => e = .returned (.bool true) ∧ Below w.heap.size w w' := all_walk0 z.1 z.2 w h.1 h.2.2 hb

end Go.Proofs.Ytlaijnabdlidiaa
