/- PaneCounts returns true, whatever comes in. -/
import Derived.Test.YtkidpikocggppaaLaw09a
namespace Go.Proofs.Ytkidpikocggppaa
open Go.RowKit
set_option linter.unusedVariables false
set_option linter.unusedSimpArgs false

/-- a pane that is to be fired -/
structure Tr where
  t : Int
  l : Bool
def Tr.cells (p : Tr) : List Value := [.int .i64 p.t, .bool p.l]
theorem Tr.cells2 (p : Tr) : p.cells.length = 2 := rfl
def trs (D : List Tr) : List Value := D.flatMap Tr.cells
theorem trs_len (D : List Tr) : (trs D).length = D.length * 2 := flat_len _ 2 Tr.cells2 D
theorem tr_at {w : World} {B n c : Nat} {A : Option Addr} {D : List Tr} (h : Sl w B (.slice A n c) 2 n (trs D)) {k : Nat} (hk : k < n) (hD : D.length = n) :
    ∃ ad t l, A = some ad ∧ (ad.add (k * 2)).block < B ∧ D[k]? = some ⟨t, l⟩ ∧ w.cell? (ad.add (k * 2)) = some (.int .i64 t) ∧
      w.cell? ⟨(ad.add (k * 2)).block, (ad.add (k * 2)).off + 1, none⟩ = some (.bool l) := by
  obtain ⟨ad, rfl, hb, hh⟩ := h.at_ hk
  rw [trs, part_of _ 2 Tr.cells2 D k (by omega)] at hh
  refine ⟨ad, (D[k]'(by omega)).t, (D[k]'(by omega)).l, rfl, by rw [add_blk]; exact hb, List.getElem?_eq_getElem (by omega), ?_, ?_⟩
  · have := hh 0 _ rfl
    rwa [add_add'] at this
  · have := hh 1 _ rfl
    rwa [add_fld _ _ 1 (by omega)] at this

set_option maxHeartbeats 4000000 in
theorem counts_any (v : Value) (T : List Tr) (n : Nat) (w : World) (hs : Sl w w.heap.size v 2 n (trs T)) (hT : T.length = n) :
    Calls Try.prog 4 #[v] w fun e w' => e = .returned (.bool true) ∧ Below w.heap.size w w' := by
  obtain ⟨A, c, rfl, hnc⟩ := hs.form
  have hmax := hs.max
  have HS := hide hs
  have HT := hide hT
  clear hs hT
  by_cases hbig : 500 < n
  · go_enter Try.func4, Try.ntmps4
    go_wp2_with fail
    refine (new_any _).mono ?_
    rintro e w1 ⟨rfl, hl, rfl⟩
    clear hl
    go_wp2_with fail
    refine (awake09 _).mono ?_
    rintro e w2 ⟨rfl, hb⟩
    have HB := hide hb
    clear hb
    go_wp2_with fail
    go_ret
    exact ⟨rfl, ((Below.refl _ _).alloc (Nat.le_refl _) _).trans (HB.out.mono (by simp))⟩
  · go_enter Try.func4, Try.ntmps4
    go_wp2_with fail
    refine (new_any _).mono ?_
    rintro e w1 ⟨rfl, hl, rfl⟩
    have HL := hide hl
    clear hl
    go_wp2_with fail
    go_loopw [4, 5, 6, 26] (fun f o v i wr => ∃ (k : Nat) (m st on : Int), k ≤ n ∧ i = .int .i64 k ∧ f = .int .i64 m ∧ o = .int .i64 on ∧ v = .bool (decide (st = 3)) ∧
      Hid (0 ≤ m ∧ m ≤ k ∧ 0 ≤ st ∧ st ≤ 3 ∧ 0 ≤ on ∧ on ≤ 1 ∧ (st = 0 → on = 0)) ∧ Hid (lineB wr w.heap.size m st) ∧ Hid (Below w.heap.size w wr)) (fun _ _ _ i _ => n - (intOf i).toNat)
    case atStart => exact ⟨0, 0, 0, 0, Nat.zero_le _, rfl, rfl, rfl, rfl, by unfold Hid; omega, HL, (Below.refl _ _).alloc (Nat.le_refl _) _⟩
    case round =>
      obtain ⟨k, m, st, on, hk, rfl, rfl, rfl, rfl, HM, HL, HB⟩ := hrel
      by_cases hlt : k < n
      · obtain ⟨ad, t, l, rfl, hb, hTk, h0, h1⟩ := tr_at (HS.out.below HB.out) hlt HT.out
        have HTk := hide hTk
        clear hTk
        have hb2 : (ad.add (k * 2)).block < wr.heap.size := Nat.lt_of_lt_of_le hb HB.out.size
        cases hok : fok st t
        · go_wp2_with fail
          go_at_call 9
          refine (fire_no _ m st t l _ (by with_reducible repeat (first | exact HL.out | apply lineB.alloc)) hok).mono ?_
          rintro e w2 ⟨rfl, hf, hl⟩
          have hz2 : wr.heap.size + 1 ≤ w2.heap.size := by simpa using hf.size
          have HB2 := hide ((HB.out.alloc HB.out.size _).trans (hf.below (by have := HB.out.size; simp; omega) (fun k hk (h : _ = _) => by omega)))
          have HL2 := hide hl
          clear hf hl
          go_wp2_with fail
          go_roundw
          case rel =>
            refine ⟨k + 1, m, st, on, by omega, by go_num, rfl, rfl, rfl, ?_, ?_, ?_⟩
            · have := HM.out; unfold Hid; omega
            · exact HL2.out.alloc _
            · exact HB2.out.alloc HB2.out.size _
          case measure => simp [intOf]; omega
        · have hm0 : 0 ≤ m := HM.out.1
          have hm1 : m ≤ 500 := by have := HM.out; omega
          have ho0 : 0 ≤ on := by have := HM.out; omega
          have ho1 : on ≤ 1 := by have := HM.out; omega
          have hst3 : decide (st = 3) = false := by
            simp [fok] at hok
            have := HM.out
            simp
            omega
          go_wp2_with fail
          go_at_call 9
          refine (fire_yes _ m st t l _ (by with_reducible repeat (first | exact HL.out | apply lineB.alloc)) hok hm0 (by omega)).mono ?_
          rintro e w2 ⟨rfl, hf, hl⟩
          have hz2 : wr.heap.size + 1 ≤ w2.heap.size := by simpa using hf.size
          have B3 : Blk w2 wr.heap.size 28 #[.int .i64 t, .bool l] := hf.blk (Blk.new _ _ _) (fun (h : _ = _) => by have := HB.out.size; have := HL.out.lt; omega)
          obtain ⟨c0, c1, c2⟩ := B3.two
          have HB2 := hide ((HB.out.alloc HB.out.size _).trans (hf.below (by have := HB.out.size; simp; omega) (fun k hk (h : _ = _) => by omega)))
          have HL2 := hide hl
          have hfn : decide (fnext t l = 3) = l := by
            simp [fok] at hok
            cases l <;> simp [fnext]
            omega
          have hst' : 0 ≤ fnext t l ∧ fnext t l ≤ 3 ∧ (fnext t l = 0 → t ≠ 1 ∧ on = 0) := by
            have := HM.out
            simp [fok] at hok
            cases l <;> simp [fnext] <;> omega
          have ht0 : t = 1 → on = 0 := by
            have := HM.out
            simp [fok] at hok
            intro h
            omega
          have HFN := hide hfn
          have HST := hide hst'
          have HT0 := hide ht0
          clear hf hl B3 hfn hst' ht0
          by_cases ht : t = 1
          · subst ht
            go_wp2_with fail
            go_roundw
            case rel =>
              refine ⟨k + 1, m + 1, fnext 1 l, on + 1, by omega, by go_num, by go_num, by go_num, by rw [HFN.out], ?_, ?_, ?_⟩
              · have := HM.out; have := HST.out; have := HT0.out (by simp); unfold Hid; omega
              · exact HL2.out.alloc _
              · exact HB2.out.alloc HB2.out.size _
            case measure => simp [intOf]; omega
          · have ht1 : (t == 1) = false := by simpa using ht
            clear ht
            go_wp2_with fail
            go_roundw
            case rel =>
              refine ⟨k + 1, m + 1, fnext t l, on, by omega, by go_num, by go_num, rfl, by rw [HFN.out], ?_, ?_, ?_⟩
              · have := HM.out; have := HST.out; unfold Hid; omega
              · exact HL2.out.alloc _
              · exact HB2.out.alloc HB2.out.size _
            case measure => simp [intOf]; omega
      · have ho1 : on ≤ 1 := by have := HM.out; omega
        go_wp2_with fail
        go_at_call 11
        refine (next_any _ _ _ _ HL.out).mono ?_
        rintro e w2 ⟨rfl, rfl⟩
        go_wp2_with fail
        go_at_call 12
        refine (stage_any _ _ _ _ HL.out).mono ?_
        rintro e w2 ⟨rfl, rfl⟩
        go_wp2_with fail
        refine (awake09 _).mono ?_
        rintro e w2 ⟨rfl, hb⟩
        have HB2 := hide hb
        clear hb
        go_wp2_with fail
        go_ret
        exact ⟨rfl, HB.out.trans (HB2.out.mono HB.out.size)⟩

end Go.Proofs.Ytkidpikocggppaa
