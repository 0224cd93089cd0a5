/- Same, same; Safe (a binary search). -/
import Derived.Test.YtlllocfcljgacaaTape
namespace Go.Proofs.Ytlllocfcljgacaa
open Go.RowKit
set_option linter.unusedVariables false
set_option linter.unusedSimpArgs false

theorem u8map_inj : ∀ (D E : List Int), Bytes8 D → Bytes8 E → D.map (fun n => UInt8.ofNat n.toNat) = E.map (fun n => UInt8.ofNat n.toNat) → D = E
  | [], [], _, _, _ => rfl
  | [], e :: E, _, _, h => by simp at h
  | d :: D, [], _, _, h => by simp at h
  | d :: D, e :: E, h1, h2, h => by
    simp only [List.map_cons, List.cons.injEq] at h
    have hd := h1 d List.mem_cons_self
    have he := h2 e List.mem_cons_self
    have h3 := congrArg UInt8.toNat h.1
    simp only [UInt8.toNat_ofNat'] at h3
    rw [u8map_inj D E (fun c hc => h1 c (List.mem_cons_of_mem _ hc)) (fun c hc => h2 c (List.mem_cons_of_mem _ hc)) h.2]
    congr 1
    omega
theorem str_eq (D E : List Int) (h1 : Bytes8 D) (h2 : Bytes8 E) : ((strOfNums D).toList == (strOfNums E).toList) = decide (D = E) := by
  rw [ByteArray.toList_eq, ByteArray.toList_eq, strOfNums_data, strOfNums_data]
  by_cases h : D = E
  · subst h
    simp
  · rw [decide_eq_false h, beq_eq_false_iff_ne]
    exact fun h9 => h (u8map_inj D E h1 h2 h9)

set_option maxHeartbeats 2000000 in
theorem bsame_any (v u : Value) (D E : List Int) (m n B : Nat) (w : World) (hs : Sl w B v 1 m (bys D)) (hu : Sl w B u 1 n (bys E)) (hD : D.length = m) (hE : E.length = n) (h1 : Bytes8 D) (h2 : Bytes8 E) :
    Calls Try.prog 20 #[v, u] w fun e w' => e = .returned (.bool (decide (D = E))) ∧ w' = w := by
  obtain ⟨A, c, rfl, hc⟩ := hs.form
  obtain ⟨A', c', rfl, hc'⟩ := hu.form
  have k1 := bys_str _ D m B w hs hD
  have k2 := bys_str _ E n B w hu hE
  have HSE := hide (str_eq D E h1 h2)
  clear hs hu h1 h2 hD hE
  go_enter Try.func20, Try.ntmps20
  go_wp2_with fail
  go_ret
  rw [HSE.out]
  exact ⟨rfl, rfl⟩

theorem rec_ne {Q R : List Rec} {k : Nat} (h1 : k < Q.length) (h2 : k < R.length) (h : Q[k].2 ≠ R[k].2) : decide (Q.map (·.2) = R.map (·.2)) = false := by
  rw [decide_eq_false_iff_not]
  intro h9
  have h3 : (Q.map (·.2))[k]? = (R.map (·.2))[k]? := by rw [h9]
  rw [List.getElem?_map, List.getElem?_map, List.getElem?_eq_getElem h1, List.getElem?_eq_getElem h2] at h3
  simp only [Option.map_some, Option.some.injEq] at h3
  exact h h3

set_option maxHeartbeats 4000000 in
theorem same18 (v u : Value) (Q R : List Rec) (B : Nat) (w : World) (hs : Recs w B v Q) (hu : Recs w B u R) (h1 : ∀ r ∈ Q, Bytes8 r.2) (h2 : ∀ r ∈ R, Bytes8 r.2) :
    Calls Try.prog 16 #[v, u] w fun e w' => e = .returned (.bool (decide (Q.map (·.2) = R.map (·.2)))) ∧ ∃ j, w' = w.drewN j := by
  obtain ⟨A, c, rfl, hc⟩ := hs.1.form
  obtain ⟨A', c', rfl, hc'⟩ := hu.1.form
  have hmax := hs.1.max
  have HS := hide hs
  have HU := hide hu
  have H1 := hide h1
  have H2 := hide h2
  clear hs hu h1 h2
  by_cases hmn : Q.length = R.length
  · obtain ⟨n, hn⟩ : ∃ n, n = Q.length := ⟨_, rfl⟩
    have hn2 : R.length = n := by omega
    have HN := hide (And.intro hn hn2)
    rw [← hn] at hc hmax ⊢
    rw [hn2] at hc' ⊢
    have HSS := hide HS.out.1
    have HUU := hide HU.out.1
    rw [← hn] at HSS
    rw [hn2] at HUU
    clear hn hn2 hmn
    go_enter Try.func16, Try.ntmps16
    go_wp2_with fail
    go_loopw [13] (fun i wr => ∃ k : Nat, k ≤ n ∧ i = .int .i64 k ∧ Hid ((Q.map (·.2)).take k = (R.map (·.2)).take k) ∧ Hid (∃ j, wr = w.drewN j)) (fun i _ => n - (intOf i).toNat)
    case atStart => exact ⟨0, Nat.zero_le _, rfl, by simp [Hid], ⟨0, rfl⟩⟩
    case round =>
      obtain ⟨k, hk, rfl, HT, HJ⟩ := hrel
      have HSr : Hid (Recs wr B (.slice A n c) Q) := by obtain ⟨j, rfl⟩ := HJ.out; rw [HN.out.1]; exact HS.out
      have HUr : Hid (Recs wr B (.slice A' n c') R) := by obtain ⟨j, rfl⟩ := HJ.out; rw [← HN.out.2]; exact HU.out
      have HD : Hid (∀ m, ∃ j, wr.drewN m = w.drewN j) := by obtain ⟨j, rfl⟩ := HJ.out; exact fun m => ⟨j + m, World.drewN_drewN w j m⟩
      by_cases hlt : k < n
      · have hkQ : k < Q.length := by rw [← HN.out.1]; exact hlt
        have hkR : k < R.length := by rw [HN.out.2]; exact hlt
        obtain ⟨ad, rfl, hb, h0⟩ := rec_at (by have h9 := HSr.out.1; rwa [← HN.out.1] at h9) hlt HN.out.1.symm
        obtain ⟨ad', rfl, hb', h0'⟩ := rec_at (by have h9 := HUr.out.1; rwa [HN.out.2] at h9) hlt HN.out.2
        have HNE := hide (rec_ne hkQ hkR)
        have HEQ : Hid (Q[k].2 = R[k].2 → (Q.map (·.2)).take (k + 1) = (R.map (·.2)).take (k + 1)) := by
          intro h
          rw [List.take_succ_eq_append_getElem (by simpa using hkQ), List.take_succ_eq_append_getElem (by simpa using hkR), HT.out, List.getElem_map, List.getElem_map, h]
        have HSK := hide (HSr.out.2 Q[k] (List.getElem_mem hkQ))
        have HUK := hide (HUr.out.2 R[k] (List.getElem_mem hkR))
        have H8Q := hide (H1.out Q[k] (List.getElem_mem hkQ))
        have H8R := hide (H2.out R[k] (List.getElem_mem hkR))
        have b0 : 0 ≤ (k : Int) := by omega
        have b1 : (k : Int) < n := by omega
        generalize Q[k] = p at h0 HNE HEQ HSK H8Q
        generalize R[k] = q at h0' HNE HEQ HUK H8R
        obtain ⟨pv, pd⟩ := p
        obtain ⟨qv, qd⟩ := q
        simp only at h0 h0' HNE HEQ HSK HUK H8Q H8R
        go_wp2_with fail
        go_quiet ((go_at_call 20; refine Calls.quiet_of_same (bsame_any _ _ pd qd _ _ B _ (HSK.out.drewN _) (HUK.out.drewN _) rfl rfl H8Q.out H8R.out)))
        by_cases he : pd = qd
        · have h3 : decide (pd = qd) = true := decide_eq_true he
          rw [h3]
          have HX := hide (HEQ.out he)
          clear he h3
          go_wp2_with fail
          go_roundw
          case rel => exact ⟨k + 1, by omega, by go_num, HX.out, HD.out _⟩
          case measure => simp [intOf]; omega
        · have h3 : decide (pd = qd) = false := decide_eq_false he
          rw [h3]
          have HX := hide (HNE.out he)
          clear he h3
          go_wp2_with fail
          go_ret
          exact ⟨by rw [HX.out]; rfl, HD.out _⟩
      · have HX : Hid (decide (Q.map (·.2) = R.map (·.2)) = true) := by
          have h := HT.out
          have := HN.out
          rw [List.take_of_length_le (by simp; omega), List.take_of_length_le (by simp; omega)] at h
          simp [Hid, h]
        go_wp2_with fail
        go_ret
        exact ⟨by rw [HX.out]; rfl, HJ.out⟩
  · have HX : Hid (decide (Q.map (·.2) = R.map (·.2)) = false) := by
      rw [Hid, decide_eq_false_iff_not]
      exact fun h => hmn (len_eq h)
    go_enter Try.func16, Try.ntmps16
    go_wp2_with fail
    go_ret
    exact ⟨by rw [HX.out]; rfl, ⟨0, rfl⟩⟩

end Go.Proofs.Ytlllocfcljgacaa
