/- JournalPlays: a capacity that is none; a script that is too much. -/
import Derived.Test.YtlllocfcljgacaaPlays18
namespace Go.Proofs.Ytlllocfcljgacaa
open Go.RowKit
set_option linter.unusedVariables false
set_option linter.unusedSimpArgs false

structure Op18 where
  k : Int
  kp : Int
  z : Value × List Rec
def Op18.cells (o : Op18) : List Value := [.int .i64 o.k, .int .i64 o.kp, o.z.1]
def ops18 (S : List Op18) : List Value := S.flatMap Op18.cells
/-- an op's records may be read below B -/
def OpsR (w : World) (B : Nat) (S : List Op18) : Prop := ∀ o ∈ S, Recs w B o.z.1 o.z.2
def totS (S : List Op18) : Nat := (S.map fun o => totB o.z.2).sum
theorem totS_snoc (S : List Op18) (k : Nat) (hk : k < S.length) : totS (S.take (k + 1)) = totS (S.take k) + totB S[k].z.2 := by
  rw [List.take_succ_eq_append_getElem hk, totS, List.map_append, List.sum_append]
  simp [totS]
theorem totS_le (S : List Op18) (k : Nat) : totS (S.take k) ≤ totS S := by
  have h2 : totS S = totS (S.take k) + totS (S.drop k) := by
    rw [totS, totS, totS, ← List.sum_append, ← List.map_append, List.take_append_drop]
  omega
theorem op_at {w : World} {B n c : Nat} {A : Option Addr} {S : List Op18} (h : Sl w B (.slice A n c) 3 n (ops18 S)) {k : Nat} (hk : k < n) (hD : S.length = n) :
    ∃ ad, A = some ad ∧ (ad.add (k * 3)).block < B ∧ w.cell? (ad.add (k * 3)) = some (.int .i64 (S[k]'(by omega)).k) ∧ w.cell? ⟨(ad.add (k * 3)).block, (ad.add (k * 3)).off + 1, none⟩ = some (.int .i64 (S[k]'(by omega)).kp) ∧
      w.cell? ⟨(ad.add (k * 3)).block, (ad.add (k * 3)).off + 2, none⟩ = some (S[k]'(by omega)).z.1 := by
  obtain ⟨ad, rfl, hb, hh⟩ := h.at_ hk
  rw [ops18, part_of Op18.cells 3 (fun _ => rfl) S k (by omega)] at hh
  refine ⟨ad, rfl, by rw [add_blk]; exact hb, ?_, ?_, ?_⟩
  · have := hh 0 _ rfl
    rwa [add_add'] at this
  · have := hh 1 _ rfl
    rw [add_add', add_fld ad (k * 3) 1 (by omega)] at this
    exact this
  · have := hh 2 _ rfl
    rw [add_add', add_fld ad (k * 3) 2 (by omega)] at this
    exact this

set_option maxRecDepth 100000 in
set_option maxHeartbeats 8000000 in
theorem plays_bad (cap : Int) (v : Value) (w : World) (hbad : cap < 0 ∨ 1073741824 < cap) :
    Calls Try.prog 7 #[.int .i64 cap, v] w fun e w' => e = .returned (.bool true) ∧ Below w.heap.size w w' := by
  have HBad := hide hbad
  have hcases : cap < 0 ∨ (¬ cap < 0 ∧ 1073741824 < cap) := by omega
  clear hbad
  go_enter Try.func7, Try.ntmps7
  go_wp2_with fail
  refine (jnew_bad _ cap HBad.out).mono ?_
  rintro e w1 ⟨rfl, rfl⟩
  rcases hcases with h1 | ⟨h1, h2⟩
  all_goals
    go_wp2_with fail
    refine (awake18 _).mono ?_
    rintro e w2 ⟨rfl, hb⟩
    go_wp2_with fail
    go_ret
    exact ⟨rfl, hb⟩

set_option maxRecDepth 100000 in
set_option maxHeartbeats 8000000 in
theorem plays_big (cap : Int) (v : Value) (S : List Op18) (n B : Nat) (w : World) (hs : Sl w B v 3 n (ops18 S)) (hS : S.length = n) (ho : OpsR w B S) (ht : totS S ≤ 100000000) (hB : B ≤ w.heap.size) (h1 : 0 ≤ cap) (h2 : cap ≤ 1073741824) (hbig : 262144 < totS S ∨ 200 < n) :
    Calls Try.prog 7 #[.int .i64 cap, v] w fun e w' => e = .returned (.bool true) ∧ Below w.heap.size w w' := by
  obtain ⟨A, c, rfl, hc⟩ := hs.form
  have hmax := hs.max
  have HS := hide hs
  have HSL := hide hS
  have HO := hide ho
  clear hs hS ho
  go_enter Try.func7, Try.ntmps7
  go_wp2_with fail
  refine (jnew_ok _ cap h1 h2).mono ?_
  rintro e w1 ⟨rfl, rfl⟩
  have HB1 := hide ((Below.refl w.heap.size w).alloc (Nat.le_refl _) (.cells #[.int .i64 cap, .slice none 0 0, .slice none 0 0, .int .i64 0] jT))
  generalize hW1 : w.alloc (.cells #[.int .i64 cap, .slice none 0 0, .slice none 0 0, .int .i64 0] jT) = w1 at *
  clear hW1
  go_wp2_with fail
  go_loopw [7, 51] (fun t i wr => ∃ (k : Nat), k ≤ n ∧ i = .int .i64 k ∧ t = .int .i64 (totS (S.take k) : Nat) ∧ Hid (Below w.heap.size w wr)) (fun _ i _ => n - (intOf i).toNat)
  case atStart => exact ⟨0, Nat.zero_le _, rfl, rfl, HB1.out⟩
  case round =>
    obtain ⟨k, hk, rfl, rfl, HB⟩ := hrel
    have hzr := HB.out.size
    by_cases hlt : k < n
    · have hkS : k < S.length := by rw [HSL.out]; exact hlt
      obtain ⟨ad, rfl, hab, c0, c1, c2⟩ := op_at (HS.out.below (HB.out.mono hB)) hlt HSL.out
      have HT := hide (totS_snoc S k hkS)
      have hle := totS_le S (k + 1)
      rw [HT.out] at hle
      have HRo := hide ((HO.out S[k] (List.getElem_mem hkS)).below (HB.out.mono hB))
      generalize S[k] = o at c0 c1 c2 HT hle HRo
      obtain ⟨ok, okp, oz⟩ := o
      obtain ⟨ov, oR⟩ := oz
      simp only at c0 c1 c2 HT hle HRo
      obtain ⟨oA, oc, rfl, hoc⟩ := HRo.out.1.form
      have hb2 : (ad.add (k * 3)).block < wr.heap.size := by omega
      obtain ⟨rn, hrn⟩ : ∃ rn, rn = oR.length := ⟨_, rfl⟩
      have HRN := hide hrn
      rw [← hrn] at c2 hoc
      clear hrn
      obtain ⟨T0, hT0⟩ : ∃ T0, T0 = totS (S.take k) := ⟨_, rfl⟩
      rw [← hT0] at HT hle ⊢
      clear hT0
      go_wp2_with fail
      have HB2 := hide (HB.out.alloc hzr (.cells #[.int .i64 ok, .int .i64 okp, .slice oA rn oc] 50))
      have HR2 := hide (HRo.out.below ((Below.refl B wr).alloc (by omega) (.cells #[.int .i64 ok, .int .i64 okp, .slice oA rn oc] 50)))
      generalize wr.alloc (.cells #[.int .i64 ok, .int .i64 okp, .slice oA rn oc] 50) = w2 at *
      have HR2s := hide HR2.out.1
      rw [← HRN.out] at HR2s
      have hrmax := HR2s.out.max
      go_loopw [7, 58] (fun t i wz => ∃ (j : Nat), j ≤ rn ∧ i = .int .i64 j ∧ t = .int .i64 ((T0 + totB (oR.take j) : Nat)) ∧ wz = w2) (fun _ i _ => rn - (intOf i).toNat)
      case atStart => exact ⟨0, Nat.zero_le _, rfl, by simp [totB], rfl⟩
      case round =>
        obtain ⟨j, hj, rfl, rfl, rfl⟩ := hrel
        by_cases hltj : j < rn
        · have hjR : j < oR.length := by rw [← HRN.out]; exact hltj
          have hsl := HR2s.out
          obtain ⟨ad2, rfl, hab2, g0⟩ := rec_at hsl hltj HRN.out.symm
          have HRK := hide (HR2.out.2 oR[j] (List.getElem_mem hjR))
          have HTj := hide (totB_snoc oR j hjR)
          have hlej := totB_le oR (j + 1)
          rw [HTj.out] at hlej
          generalize oR[j] = r at g0 HRK HTj hlej
          obtain ⟨rv, rd⟩ := r
          simp only at g0 HRK HTj hlej
          obtain ⟨rA, rc, rfl, hrc⟩ := HRK.out.form
          clear hsl
          go_wp2_with fail
          go_roundw
          case rel => exact ⟨j + 1, by omega, by simp, by rw [HTj.out]; first | omega | (simp <;> omega), trivial⟩
          case measure => simp [intOf]; omega
        · have hjn : j = oR.length := by rw [← HRN.out]; omega
          have HTJ : Hid (T0 + totB (oR.take j) = totS (S.take (k + 1))) := by rw [Hid, HT.out, hjn, List.take_length]
          rw [HTJ.out]
          go_wp2_with fail
          go_roundw
          case rel => exact ⟨k + 1, by omega, by simp, rfl, HB2.out⟩
          case measure => simp [intOf]; omega
    · have hkn : k = n := by omega
      have hT : totS (S.take k) = totS S := by rw [List.take_of_length_le (by rw [HSL.out]; omega)]
      rw [hT]
      obtain ⟨T, hTT⟩ : ∃ T, T = totS S := ⟨_, rfl⟩
      rw [← hTT] at hbig ht ⊢
      clear hT hTT
      subst hkn
      by_cases h9 : 262144 < T
      · go_wp2_with fail
        refine (awake18 _).mono ?_
        rintro e w2 ⟨rfl, hb⟩
        go_wp2_with fail
        go_ret
        exact ⟨rfl, HB.out.trans (hb.mono hzr)⟩
      · have h10 : 200 < k := by omega
        clear hbig
        go_wp2_with fail
        refine (awake18 _).mono ?_
        rintro e w2 ⟨rfl, hb⟩
        go_wp2_with fail
        go_ret
        exact ⟨rfl, HB.out.trans (hb.mono hzr)⟩

end Go.Proofs.Ytlllocfcljgacaa
