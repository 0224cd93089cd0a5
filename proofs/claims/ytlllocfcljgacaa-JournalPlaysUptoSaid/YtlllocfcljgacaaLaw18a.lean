/- JournalRoom: a list of records that is too long, or too much. -/
import Derived.Test.YtlllocfcljgacaaJour8
namespace Go.Proofs.Ytlllocfcljgacaa
open Go.RowKit
set_option linter.unusedVariables false
set_option linter.unusedSimpArgs false

/-- what the records weigh -/
def totB (R : List Rec) : Nat := (R.map fun r => r.2.length + 9).sum
theorem totB_snoc (R : List Rec) (k : Nat) (hk : k < R.length) : totB (R.take (k + 1)) = totB (R.take k) + (R[k].2.length + 9) := by
  rw [List.take_succ_eq_append_getElem hk, totB, List.map_append, List.sum_append]
  simp [totB]
theorem totB_le (R : List Rec) (k : Nat) : totB (R.take k) ≤ totB R := by
  have h : R = R.take k ++ R.drop k := (List.take_append_drop k R).symm
  have h2 : totB R = totB (R.take k) + totB (R.drop k) := by
    rw [totB, totB, totB, ← List.sum_append, ← List.map_append, List.take_append_drop]
  omega
theorem totB_mem {R : List Rec} {r : Rec} (h : r ∈ R) : r.2.length + 9 ≤ totB R := by
  obtain ⟨k, hk, rfl⟩ := List.getElem_of_mem h
  have h1 := totB_snoc R k hk
  have h2 := totB_le R (k + 1)
  omega
theorem frames_le : ∀ (R : List Rec), (∀ r ∈ R, r.2.length ≤ 1048576) → (frames R).length ≤ totB R
  | [], _ => by simp [frames]
  | r :: R, h => by
    have h1 := frameB_len r.2 (h r List.mem_cons_self)
    have h2 := frames_le R (fun q hq => h q (List.mem_cons_of_mem _ hq))
    have h3 : (frames (r :: R)).length = (frameB r.2).length + (frames R).length := by simp [frames]
    have h4 : totB (r :: R) = r.2.length + 9 + totB R := by simp [totB]
    omega
theorem totB_cap : ∀ (R : List Rec), (∀ r ∈ R, r.2.length ≤ 140737488351232) → totB R ≤ R.length * 140737488351241
  | [], _ => by simp [totB]
  | r :: R, h => by
    have h1 := h r List.mem_cons_self
    have h2 := totB_cap R (fun q hq => h q (List.mem_cons_of_mem _ hq))
    have h4 : totB (r :: R) = r.2.length + 9 + totB R := by simp [totB]
    rw [List.length_cons, Nat.add_mul]
    omega

set_option maxHeartbeats 4000000 in
theorem room_many (v : Value) (R : List Rec) (B : Nat) (w : World) (hs : Recs w B v R) (hn : 100 < R.length) (hm : R.length ≤ 5864062014634) (hl : ∀ r ∈ R, r.2.length ≤ 140737488351232) :
    Calls Try.prog 3 #[v] w fun e w' => e = .returned (.bool true) ∧ Below w.heap.size w w' := by
  obtain ⟨A, c, rfl, hc⟩ := hs.1.form
  have HS := hide hs
  have HL := hide hl
  clear hs hl
  go_enter Try.func3, Try.ntmps3
  go_wp2_with fail
  go_loopw [3, 18] (fun s i wr => ∃ (k : Nat) (x : Int), k ≤ R.length ∧ i = .int .i64 k ∧ s = .int .i64 x ∧ wr = w) (fun _ i _ => R.length - (intOf i).toNat)
  case atStart => exact ⟨0, 0, Nat.zero_le _, rfl, rfl, rfl⟩
  case round =>
    obtain ⟨k, x, hk, rfl, rfl, rfl⟩ := hrel
    by_cases hlt : k < R.length
    · obtain ⟨ad, rfl, hab, h0⟩ := rec_at HS.out.1 hlt rfl
      have HRK := hide (HS.out.2 R[k] (List.getElem_mem hlt))
      have hlk := HL.out R[k] (List.getElem_mem hlt)
      generalize R[k] = r at h0 HRK hlk
      obtain ⟨rv, rd⟩ := r
      simp only at h0 HRK hlk
      obtain ⟨rA, rc, rfl, hrc⟩ := HRK.out.form
      go_wp2_with fail
      go_roundw
      case rel => exact ⟨k + 1, _, by omega, by simp, rfl, trivial⟩
      case measure => simp [intOf]; omega
    · by_cases hx : x > 262144
      · go_wp2_with fail
        refine (awake18 _).mono ?_
        rintro e w2 ⟨rfl, hb⟩
        go_wp2_with fail
        go_ret
        exact ⟨rfl, hb⟩
      · go_wp2_with fail
        refine (awake18 _).mono ?_
        rintro e w2 ⟨rfl, hb⟩
        go_wp2_with fail
        go_ret
        exact ⟨rfl, hb⟩

set_option maxHeartbeats 4000000 in
theorem room_big (v : Value) (R : List Rec) (B : Nat) (w : World) (hs : Recs w B v R) (hn : R.length ≤ 100) (hbig : 262144 < totB R) (hl : ∀ r ∈ R, r.2.length ≤ 140737488351232) :
    Calls Try.prog 3 #[v] w fun e w' => e = .returned (.bool true) ∧ Below w.heap.size w w' := by
  obtain ⟨A, c, rfl, hc⟩ := hs.1.form
  have hcap := totB_cap R hl
  have HS := hide hs
  have HL := hide hl
  clear hs hl
  go_enter Try.func3, Try.ntmps3
  go_wp2_with fail
  go_loopw [3, 18] (fun s i wr => ∃ (k : Nat), k ≤ R.length ∧ i = .int .i64 k ∧ s = .int .i64 (totB (R.take k) : Nat) ∧ wr = w) (fun _ i _ => R.length - (intOf i).toNat)
  case atStart => exact ⟨0, Nat.zero_le _, rfl, rfl, rfl⟩
  case round =>
    obtain ⟨k, hk, rfl, rfl, rfl⟩ := hrel
    by_cases hlt : k < R.length
    · obtain ⟨ad, rfl, hab, h0⟩ := rec_at HS.out.1 hlt rfl
      have HRK := hide (HS.out.2 R[k] (List.getElem_mem hlt))
      have hlk := HL.out R[k] (List.getElem_mem hlt)
      have HT := hide (totB_snoc R k hlt)
      have hle := totB_le R k
      generalize R[k] = r at h0 HRK hlk HT
      obtain ⟨rv, rd⟩ := r
      simp only at h0 HRK hlk HT
      obtain ⟨rA, rc, rfl, hrc⟩ := HRK.out.form
      go_wp2_with fail
      go_roundw
      case rel => exact ⟨k + 1, by omega, by simp, by rw [HT.out]; first | omega | (simp <;> omega), trivial⟩
      case measure => simp [intOf]; omega
    · have hkn : k = R.length := by omega
      rw [List.take_of_length_le (by omega)]
      go_wp2_with fail
      refine (awake18 _).mono ?_
      rintro e w2 ⟨rfl, hb⟩
      go_wp2_with fail
      go_ret
      exact ⟨rfl, hb⟩

end Go.Proofs.Ytlllocfcljgacaa
