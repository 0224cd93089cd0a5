/- Records in memory; the law's 'copied'. -/
import Derived.Test.YtlllocfcljgacaaJour3
namespace Go.Proofs.Ytlllocfcljgacaa
open Go.RowKit
set_option linter.unusedVariables false
set_option linter.unusedSimpArgs false

abbrev Rec := Value × List Int
def recs (R : List Rec) : List Value := R.flatMap fun r => [r.1]
theorem recs_app (Q R : List Rec) : recs (Q ++ R) = recs Q ++ recs R := List.flatMap_append ..
theorem rec_at {w : World} {B n c : Nat} {A : Option Addr} {R : List Rec} (h : Sl w B (.slice A n c) 1 n (recs R)) {k : Nat} (hk : k < n) (hD : R.length = n) :
    ∃ ad, A = some ad ∧ (ad.add k).block < B ∧ w.cell? (ad.add k) = some (R[k]'(by omega)).1 := by
  obtain ⟨ad, rfl, hb, hh⟩ := h.at_ hk
  rw [recs, part_of (fun r : Rec => [r.1]) 1 (fun _ => rfl) R k (by omega), Nat.mul_one] at hh
  refine ⟨ad, rfl, by rw [add_blk]; exact hb, ?_⟩
  have := hh 0 _ rfl
  rwa [add_add'] at this
abbrev sT : Nat := 23
theorem tyRec : SlTy Try.prog 22 sT 1 24 (.slice none 0 0) := ⟨Try.underlying22, info_parts (by kernel_rfl), rfl, by omega⟩
/-- the records R, read in w below B -/
def Recs (w : World) (B : Nat) (v : Value) (R : List Rec) : Prop := Sl w B v 1 R.length (recs R) ∧ ∀ r ∈ R, Sl w B r.1 1 r.2.length (bys r.2)
theorem Recs.below {w w' : World} {B : Nat} {v : Value} {R : List Rec} (h : Recs w B v R) (hb : Below B w w') : Recs w' B v R := ⟨h.1.below hb, fun r hr => (h.2 r hr).below hb⟩
/-- records of the call's own -/
def OwnRecs (w : World) (base : Nat) (v : Value) (R : List Rec) : Prop := Own w base sT 1 v R.length (recs R) ∧ ∀ r ∈ R, Own w base bT 1 r.1 r.2.length (bys r.2)
theorem OwnRecs.read {w : World} {base : Nat} {v : Value} {R : List Rec} (h : OwnRecs w base v R) : Recs w w.heap.size v R := ⟨h.1.sl, fun r hr => (h.2 r hr).sl⟩

set_option maxHeartbeats 4000000 in
theorem copied_any (v : Value) (R : List Rec) (B : Nat) (w : World) (hs : Recs w B v R) (hn : R.length ≤ 65536) (hl : ∀ r ∈ R, r.2.length ≤ 1048576) (hB : B ≤ w.heap.size) :
    Calls Try.prog 11 #[v] w fun e w' => ∃ u Q, e = .returned u ∧ OwnRecs w' w.heap.size u Q ∧ Q.map (·.2) = R.map (·.2) ∧ Below w.heap.size w w' := by
  obtain ⟨A, c, rfl, hc⟩ := hs.1.form
  have HS := hide hs
  have HL := hide hl
  clear hs hl
  go_enter Try.func11, Try.ntmps11
  go_wp2_with fail
  go_loopw [3, 8] (fun o i wr => ∃ (k : Nat) (Q : List Rec), k ≤ R.length ∧ i = .int .i64 k ∧ Q.length = k ∧ Hid (OwnRecs wr w.heap.size o Q) ∧ Hid (Q.map (·.2) = (R.take k).map (·.2)) ∧ Hid (Below w.heap.size w wr)) (fun _ i _ => R.length - (intOf i).toNat)
  case atStart => exact ⟨0, [], Nat.zero_le _, rfl, rfl, ⟨Own.nil _ _ _ _, by simp⟩, rfl, Below.refl _ _⟩
  case round =>
    obtain ⟨k, Q, hk, rfl, hQ, HQ, HE, HB⟩ := hrel
    by_cases hlt : k < R.length
    · have HSR := hide (HS.out.below (HB.out.mono hB))
      obtain ⟨ad, rfl, hab, h0⟩ := rec_at HSR.out.1 hlt rfl
      have hb2 : (ad.add k).block < wr.heap.size := by have := HB.out.size; omega
      have HT : Hid ((R.take (k + 1)).map (·.2) = (R.take k).map (·.2) ++ [R[k].2]) := by
        rw [Hid, List.take_succ_eq_append_getElem hlt, List.map_append]; rfl
      have HRK := hide (HSR.out.2 R[k] (List.getElem_mem hlt))
      have hlk := HL.out R[k] (List.getElem_mem hlt)
      generalize R[k] = r at h0 HT HRK hlk
      obtain ⟨rv, rd⟩ := r
      simp only at h0 HT HRK hlk
      obtain ⟨rA, rc, rfl, hrc⟩ := HRK.out.form
      go_wp2_with fail
      refine (copy8_any _ rd rd.length B wr HRK.out rfl (by omega)).mono ?_
      rintro e w2 ⟨u2, rfl, ho, hb⟩
      have HO2 := hide ho
      have HB2 := hide (HB.out.trans (hb.mono HB.out.size))
      have HQ2 : Hid (OwnRecs w2 w.heap.size _ Q) := hide ⟨HQ.out.1.below hb, fun r hr => (HQ.out.2 r hr).below hb⟩
      have hz2 := hb.size
      have hz1 := HB.out.size
      clear ho hb h0
      obtain ⟨uA, uc, rfl, huc⟩ := HO2.out.sl.form
      have HN : Hid (Sl (w2.alloc (.cells #[.slice uA rd.length uc] sT)) (w2.heap.size + 1) (.slice (some ⟨w2.heap.size, 0, none⟩) 1 1) 1 1 (recs [(.slice uA rd.length uc, rd)])) :=
        Sl.of_own (Own.new (n := 1) (sz := 1) (e := sT) (base := 0) w2 #[.slice uA rd.length uc] (by omega) (by omega) rfl) |>.mono (by simp)
      go_wp2_with (at_builtin; refine wpList_app rfl tyRec (.tmp 12) (.tmp 15) rfl w.heap.size (n := Q.length) (m := 1) (B := w2.heap.size + 1) (xs := recs Q) (news := recs [(.slice uA rd.length uc, rd)]) rfl rfl (HQ2.out.1.alloc _) HN.out (by intro u hu; simp [recs] at hu; subst hu; rfl) (by omega) (by omega) (by simp <;> omega) ?_)
      intro v3 w3 ha
      have HQ3 : Hid (OwnRecs w3 w.heap.size v3 (Q ++ [(.slice uA rd.length uc, rd)])) := by
        refine ⟨by rw [recs_app, List.length_append, hQ]; exact ha.own, fun r hr => ?_⟩
        rcases List.mem_append.1 hr with h9 | h9
        · refine ((HQ2.out.2 r h9).alloc _).fr ha.fr (fun g hg hg' => ?_)
          obtain ⟨cs1, t1⟩ := (HQ2.out.2 r h9).typed g hg
          obtain ⟨cs2, t2⟩ := HQ2.out.1.typed g hg'
          exact t1.apart t2 (by decide) rfl
        · rw [List.mem_singleton] at h9
          subst h9
          refine ((HO2.out.lower (by omega)).alloc _).fr ha.fr (fun g hg hg' => ?_)
          obtain ⟨cs1, t1⟩ := HO2.out.typed g hg
          obtain ⟨cs2, t2⟩ := HQ2.out.1.typed g hg'
          exact t1.apart t2 (by decide) rfl
      have HB3 := hide ((HB2.out.alloc HB2.out.size (.cells #[.slice uA rd.length uc] sT)).trans (ha.fr.below (B := w.heap.size) (by simp <;> omega) (fun k hk h => by have := (HQ2.out.1.lt k h).1; omega)))
      clear ha
      go_wp2_with fail
      go_roundw
      case rel => exact ⟨k + 1, Q ++ [(.slice uA rd.length uc, rd)], by omega, by simp, by simp; omega, HQ3, by rw [Hid, HT.out, List.map_append, HE.out]; rfl, HB3⟩
      case measure => simp [intOf]; omega
    · have hkn : k = R.length := by omega
      have HE2 : Hid (Q.map (·.2) = R.map (·.2)) := by have := HE.out; rw [List.take_of_length_le (by omega)] at this; exact this
      go_wp2_with fail
      go_ret
      exact ⟨_, rfl, Q, HQ.out, HE2.out, HB.out⟩

end Go.Proofs.Ytlllocfcljgacaa
