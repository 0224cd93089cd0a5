/- cells.reader: take, num, bytes, flag. / Decode, plain: numbers and their bytes; what a reader that is not bad has read. / The reference's get. / cells: the order of places; cmp.Compare of strings. -/
import Derived.Test.YtkobaidamdffmaaQCellsDecodes03
import Derived.Laws.Bits128
import Derived.IntWalk
import Derived.Deep.CutRange
import Derived.Sort.Grow

namespace Go.Proofs.Ytkobaidamdffmaa
open Go.RowKit
set_option linter.unusedVariables false
set_option linter.unusedSimpArgs false

abbrev rdT : Nat := 102
/-- a reader: what is left, and whether it is bad -/
abbrev RS : Type := List Int × Bool
def tkO (s : RS) (n : Nat) : List Int := if s.2 = true ∨ s.1.length < n then [] else s.1.take n
def tkS (s : RS) (n : Nat) : RS := if s.2 = true ∨ s.1.length < n then (s.1, true) else (s.1.drop n, false)
/-- a number out of its bytes, given up at T -/
def numL (T : Int) : Int → List Int → Option Int
  | n, [] => some n
  | n, c :: D => if T ≤ n then none else numL T (n * 256 + c) D
def nmO (s : RS) (c : Nat) : Int := (numL 18014398509481984 0 (tkO s c)).getD 0
def nmS (s : RS) (c : Nat) : RS := if numL 18014398509481984 0 (tkO s c) = none then ((tkS s c).1, true) else tkS s c
def byO (s : RS) : List Int := if 1048576 < nmO s 4 then [] else tkO (nmS s 4) (nmO s 4).toNat
def byS (s : RS) : RS := if 1048576 < nmO s 4 then ((nmS s 4).1, true) else tkS (nmS s 4) (nmO s 4).toNat
def fgO (s : RS) : Bool := decide (nmO s 1 = 1)
def fgS (s : RS) : RS := ((nmS s 1).1, (nmS s 1).2 || decide (1 < nmO s 1))

/-- a reader in memory: its bytes lie below block B -/
structure RdI (X : World) (B rb : Nat) (v : Value) (s : RS) : Prop where
  blk : Blk X rb rdT #[v, .bool s.2]
  sl : Sl X B v 1 s.1.length (bys s.1)
  lo : B ≤ rb
  b8 : Bytes8 s.1
/-- behind a reader's call -/
def RdQ (X : World) (B rb : Nat) (s : RS) (w' : World) : Prop := (∃ v', RdI w' B rb v' s) ∧ Fr (fun j => j = rb) X w'
def SlQ (B : Nat) (O : List Int) (u : Value) (w' : World) : Prop := Sl w' B u 1 O.length (bys O) ∧ Bytes8 O
theorem bys_take (D : List Int) (n : Nat) : (bys D).take (n * 1) = bys (D.take n) := by rw [Nat.mul_one, bys_map, bys_map, List.map_take]
theorem bys_drop (D : List Int) (n : Nat) : (bys D).drop (n * 1) = bys (D.drop n) := by rw [Nat.mul_one, bys_map, bys_map, List.map_drop]
theorem Bytes8.take {D : List Int} (h : Bytes8 D) (n : Nat) : Bytes8 (D.take n) := fun c hc => h c (List.mem_of_mem_take hc)
theorem Bytes8.drop {D : List Int} (h : Bytes8 D) (n : Nat) : Bytes8 (D.drop n) := fun c hc => h c (List.mem_of_mem_drop hc)
theorem RdI.setbad {X : World} {B rb : Nat} {v : Value} {s : RS} (h : RdI X B rb v s) (b : Bool) : RdQ X B rb (s.1, b) (X.setCell ⟨rb, 1, none⟩ (.bool b)) := by
  have hf : Fr (fun j => j = rb) X (X.setCell ⟨rb, 1, none⟩ (.bool b)) := (Fr.refl _ X).put1 1 _
  refine ⟨⟨v, ⟨?_, ?_, h.lo, h.b8⟩⟩, hf⟩
  · have h9 := h.blk.put 1 (.bool b)
    simpa using h9
  · exact h.sl.fr hf (Nat.le_of_lt (Nat.lt_of_le_of_lt h.lo h.blk.lt)) (fun k hk e => by have := h.lo; omega)

theorem RdI.cut {X : World} {B rb m n c c' : Nat} {A A' : Option Addr} {D : List Int} (h : RdI X B rb (.slice A m c) (D, false)) (hm : m = D.length) (hn : n ≤ m) (hv : Sl X B (.slice A' (m - n) c') 1 (m - n) (bys (D.drop n))) :
    SlQ B (D.take n) (.slice A n c) (X.setCell ⟨rb, 0, none⟩ (.slice A' (m - n) c')) ∧ RdQ X B rb (D.drop n, false) (X.setCell ⟨rb, 0, none⟩ (.slice A' (m - n) c')) := by
  subst hm
  have hf : Fr (fun j => j = rb) X (X.setCell ⟨rb, 0, none⟩ (.slice A' (D.length - n) c')) := (Fr.refl _ X).put1 0 _
  have hB : B ≤ X.heap.size := Nat.le_of_lt (Nat.lt_of_le_of_lt h.lo h.blk.lt)
  have hno : ∀ k, k < B → ¬ k = rb := fun k hk e => by have := h.lo; omega
  refine ⟨⟨?_, h.b8.take n⟩, ⟨.slice A' (D.length - n) c', ⟨?_, ?_, h.lo, h.b8.drop n⟩⟩, hf⟩
  · have h9 := (h.sl.take hn).fr hf hB hno
    rw [bys_take] at h9
    rw [List.length_take, Nat.min_eq_left hn]
    exact h9
  · have h9 := h.blk.put 0 (.slice A' (D.length - n) c')
    simpa using h9
  · have h9 := hv.fr hf hB hno
    rw [List.length_drop]
    exact h9

set_option maxHeartbeats 4000000 in
theorem take_any (X : World) (B rb : Nat) (v : Value) (s : RS) (n : Nat) (h : RdI X B rb v s) :
    Calls Try.prog 68 #[.pointer (some ⟨rb, 0, none⟩), .int .i64 n] X fun e w' => ∃ u, e = .returned u ∧ SlQ B (tkO s n) u w' ∧ RdQ X B rb (tkS s n) w' := by
  obtain ⟨D, b⟩ := s
  obtain ⟨vA, vc, rfl, hvc⟩ := h.sl.form
  have c0 : X.cell? ⟨rb, 0, none⟩ = some (.slice vA D.length vc) := h.blk.cell 0
  have c1 : X.cell? ⟨rb, 1, none⟩ = some (.bool b) := h.blk.cell 1
  have f0 := h.blk.frozen 0
  have f1 := h.blk.frozen 1
  have hlt := h.blk.lt
  have hmx := h.sl.inv.2.2.1
  have H := hide h
  clear h
  obtain ⟨m, hm⟩ : ∃ m, m = D.length := ⟨_, rfl⟩
  simp only at hvc
  rw [← hm] at c0 hvc
  have HM := hide hm
  clear hm
  cases b
  · by_cases hn : n ≤ m
    · have HO : Hid (tkO (D, false) n = D.take n ∧ tkS (D, false) n = (D.drop n, false)) := by
        have h9 : ¬ ((D, false).2 = true ∨ (D, false).1.length < n) := by have := HM.out; simp; omega
        unfold tkO tkS
        rw [if_neg h9, if_neg h9]
        exact ⟨rfl, rfl⟩
      go_enter Try.func68, Try.ntmps68
      go_wp2_with fail
      go_ret
      · obtain rfl : vc = n := by assumption
        rw [HO.out.1, HO.out.2]
        have h9 := H.out
        rw [← HM.out] at h9
        refine ⟨_, rfl, h9.cut HM.out hn ?_⟩
        have h8 := (show Sl X B (.slice vA m vc) 1 m (bys D) by have := h9.sl; rw [← HM.out] at this; exact this).drop' hn
        rw [bys_drop] at h8
        simpa using h8
      · go_ret
        rw [HO.out.1, HO.out.2]
        have h9 := H.out
        rw [← HM.out] at h9
        refine ⟨_, rfl, h9.cut HM.out hn ?_⟩
        have h8 := (show Sl X B (.slice vA m vc) 1 m (bys D) by have := h9.sl; rw [← HM.out] at this; exact this).drop hn
        rw [bys_drop] at h8
        simpa using h8
    · have HO : Hid (tkO (D, false) n = [] ∧ tkS (D, false) n = (D, true)) := by
        have h9 : ((D, false).2 = true ∨ (D, false).1.length < n) := by have := HM.out; simp; omega
        unfold tkO tkS
        rw [if_pos h9, if_pos h9]
        exact ⟨rfl, rfl⟩
      go_enter Try.func68, Try.ntmps68
      go_wp2_with fail
      go_ret
      rw [HO.out.1, HO.out.2]
      exact ⟨_, rfl, ⟨Sl.nil _ _ _, fun c hc => by cases hc⟩, H.out.setbad true⟩
  · have HO : Hid (tkO (D, true) n = [] ∧ tkS (D, true) n = (D, true)) := by
      unfold tkO tkS
      rw [if_pos (.inl rfl), if_pos (.inl rfl)]
      exact ⟨rfl, rfl⟩
    go_enter Try.func68, Try.ntmps68
    go_wp2_with fail
    go_ret
    rw [HO.out.1, HO.out.2]
    exact ⟨_, rfl, ⟨Sl.nil _ _ _, fun c hc => by cases hc⟩, H.out.setbad true⟩

theorem orN_i64 (a b : Nat) (ha : a < 4611686018427387904) (hb : b < 4611686018427387904) : bits .or .i64 (a : Int) (b : Int) = ((a ||| b : Nat) : Int) := by
  have hx : a ||| b < 2 ^ 62 := Nat.or_lt_two_pow (by omega) (by omega)
  have h1 : (BitVec.ofInt 64 (a : Int)).toNat = a := by
    rw [BitVec.ofInt_natCast, BitVec.toNat_ofNat]; exact Nat.mod_eq_of_lt (by omega)
  have h2 : (BitVec.ofInt 64 (b : Int)).toNat = b := by
    rw [BitVec.ofInt_natCast, BitVec.toNat_ofNat]; exact Nat.mod_eq_of_lt (by omega)
  show IntKind.i64.wrap ((BitVec.ofInt 64 (a : Int) ||| BitVec.ofInt 64 (b : Int)).toNat : Int) = _
  rw [BitVec.toNat_or, h1, h2, IntKind.wrap_i64]
  omega
theorem or_byte (z c : Int) (hz : 0 ≤ z) (hz2 : z < 18014398509481984) (hc : 0 ≤ c ∧ c ≤ 255) : bits .or .i64 (z * 256) c = z * 256 + c := by
  obtain ⟨a, rfl⟩ := Int.eq_ofNat_of_zero_le hz
  obtain ⟨b, rfl⟩ := Int.eq_ofNat_of_zero_le hc.1
  rw [show ((a : Int) * 256) = ((a * 2 ^ 8 : Nat) : Int) by omega, orN_i64 (a * 2 ^ 8) b (by omega) (by omega), ← Nat.shiftLeft_eq, ← Nat.shiftLeft_add_eq_or_of_lt (by omega : b < 2 ^ 8), Nat.shiftLeft_eq]
  omega
theorem numL_pos (T : Int) : ∀ (D : List Int) (z n : Int), Bytes8 D → 0 ≤ z → numL T z D = some n → 0 ≤ n
  | [], z, n, _, hz, h => by injection h with h; omega
  | c :: D, z, n, h8, hz, h => by
    unfold numL at h
    split at h
    · cases h
    · have hc := h8 c List.mem_cons_self
      exact numL_pos T D _ n (fun x hx => h8 x (List.mem_cons_of_mem _ hx)) (by omega) h
theorem nmO_pos {s : RS} (c : Nat) (h : Bytes8 s.1) : 0 ≤ nmO s c := by
  unfold nmO
  cases hn : numL 18014398509481984 0 (tkO s c) with
  | none => exact Int.le_refl _
  | some n =>
    refine numL_pos _ _ 0 n ?_ (Int.le_refl _) hn
    unfold tkO
    split
    · exact fun c hc => by cases hc
    · exact h.take c

set_option maxRecDepth 100000 in
set_option maxHeartbeats 4000000 in
theorem num_rd (X : World) (B rb : Nat) (v : Value) (s : RS) (n : Nat) (hB : B ≤ X.heap.size) (h : RdI X B rb v s) :
    Calls Try.prog 48 #[.pointer (some ⟨rb, 0, none⟩), .int .i64 n] X fun e w' => e = .returned (.int .i64 (nmO s n)) ∧ RdQ X B rb (nmS s n) w' := by
  have H := hide h
  clear h
  go_enter Try.func48, Try.ntmps48
  go_wp2_with fail
  refine (take_any X B rb v s n H.out).mono ?_
  rintro e w2 ⟨u, rfl, hu, hr⟩
  obtain ⟨uA, uc, rfl, huc⟩ := hu.1.form
  obtain ⟨m, hm⟩ : ∃ m, m = (tkO s n).length := ⟨_, rfl⟩
  have HSL : Hid (Sl w2 B (.slice uA m uc) 1 m (bys (tkO s n))) := by show Sl _ _ _ _ _ _; rw [hm]; exact hu.1
  have H8 := hide hu.2
  have hum := hu.1.inv.2.2.1
  rw [← hm] at huc ⊢
  have HM := hide hm
  have HR := hide hr
  clear hm hu hr
  go_wp2_with fail
  go_loopw [5, 12] (fun nv i wr => ∃ (k : Nat) (z : Int), k ≤ m ∧ i = .int .i64 k ∧ nv = .int .i64 z ∧ 0 ≤ z ∧ z < 4611686018427387904 ∧ wr = w2 ∧ Hid (numL 18014398509481984 0 (tkO s n) = numL 18014398509481984 z ((tkO s n).drop k))) (fun _ i _ => m - (intOf i).toNat)
  case atStart => exact ⟨0, 0, Nat.zero_le _, rfl, rfl, by omega, by omega, rfl, by simp [Hid]⟩
  case round =>
    obtain ⟨k, z, hk, rfl, rfl, hz, hz2, rfl, HN⟩ := hrel
    by_cases hlt : k < m
    · obtain ⟨ad, rfl, hab, ha⟩ := by_at HSL.out hlt HM.out.symm
      have habz : (ad.add k).block < wr.heap.size := Nat.lt_of_lt_of_le hab (Nat.le_trans hB HR.out.2.size)
      obtain ⟨cc, hcc⟩ : ∃ cc, cc = (tkO s n)[k]'(by have := HM.out; omega) := ⟨_, rfl⟩
      rw [← hcc] at ha
      have hc8 : 0 ≤ cc ∧ cc ≤ 255 := by rw [hcc]; exact H8.out _ (List.getElem_mem _)
      have HD : Hid ((tkO s n).drop k = cc :: (tkO s n).drop (k + 1)) := by
        show _ = _
        rw [hcc]
        exact List.drop_eq_getElem_cons _
      clear hcc
      by_cases hT : 18014398509481984 ≤ z
      · obtain ⟨rv, hrv⟩ := HR.out.1
        have f1 := hrv.blk.frozen 1
        have r1 : wr.cell? ⟨rb, 1, none⟩ = some (.bool (tkS s n).2) := hrv.blk.cell 1
        have hrl := hrv.blk.lt
        have HRV := hide hrv
        clear hrv
        have HE : Hid (nmO s n = 0 ∧ nmS s n = ((tkS s n).1, true)) := by
          have h9 : numL 18014398509481984 0 (tkO s n) = none := by
            rw [HN.out, HD.out, numL, if_pos hT]
          unfold nmO nmS
          rw [h9, if_pos rfl]
          exact ⟨rfl, rfl⟩
        go_wp2_with fail
        go_ret
        rw [HE.out.1, HE.out.2]
        exact ⟨rfl, (HRV.out.setbad true).1, HR.out.2.trans (HRV.out.setbad true).2 (fun k hk e => e)⟩
      · have HN2 : Hid (numL 18014398509481984 0 (tkO s n) = numL 18014398509481984 (z * 256 + cc) ((tkO s n).drop (k + 1))) := by
          show _ = _
          rw [HN.out, HD.out, numL, if_neg hT]
        have hz3 : z < 18014398509481984 := by omega
        have hor := or_byte z cc hz hz3 hc8
        go_wp2_with fail
        go_roundw
        case rel => exact ⟨k + 1, z * 256 + cc, by omega, rfl, rfl, by omega, by omega, trivial, HN2.out⟩
        case measure => simp [intOf]; omega
    · obtain rfl : k = m := by omega
      have HE : Hid (nmO s n = z ∧ nmS s n = tkS s n) := by
        have h9 : numL 18014398509481984 0 (tkO s n) = some z := by
          rw [HN.out, List.drop_eq_nil_of_le (by have := HM.out; omega)]
          rfl
        unfold nmO nmS
        rw [h9, if_neg (by simp)]
        exact ⟨rfl, rfl⟩
      go_wp2_with fail
      go_ret
      rw [HE.out.1, HE.out.2]
      exact ⟨rfl, HR.out⟩

theorem tkS_8 {s : RS} (n : Nat) (h : Bytes8 s.1) : Bytes8 (tkS s n).1 := by
  unfold tkS
  split
  · exact h
  · exact h.drop n
set_option maxRecDepth 100000 in
set_option maxHeartbeats 4000000 in
theorem bytes_rd (X : World) (B rb : Nat) (v : Value) (s : RS) (hB : B ≤ X.heap.size) (h : RdI X B rb v s) :
    Calls Try.prog 49 #[.pointer (some ⟨rb, 0, none⟩)] X fun e w' => ∃ u, e = .returned u ∧ SlQ B (byO s) u w' ∧ RdQ X B rb (byS s) w' := by
  have H := hide h
  clear h
  obtain ⟨n, hn⟩ : ∃ n : Nat, (n : Int) = nmO s 4 := ⟨(nmO s 4).toNat, Int.toNat_of_nonneg (nmO_pos 4 H.out.b8)⟩
  have HN := hide hn
  go_enter Try.func49, Try.ntmps49
  go_wp2_with fail
  refine (num_rd X B rb v s 4 hB H.out).mono ?_
  rintro e w2 ⟨rfl, hr⟩
  rw [← hn]
  clear hn
  have HR := hide hr
  obtain ⟨rv, hrv⟩ := hr.1
  have f1 := hrv.blk.frozen 1
  have r1 : w2.cell? ⟨rb, 1, none⟩ = some (.bool (nmS s 4).2) := hrv.blk.cell 1
  have hrl := hrv.blk.lt
  have HRV := hide hrv
  clear hrv hr
  by_cases hT : 1048576 < n
  · have HE : Hid (byO s = [] ∧ byS s = ((nmS s 4).1, true)) := by
      unfold byO byS
      rw [← HN.out, if_pos (by omega), if_pos (by omega)]
      exact ⟨rfl, rfl⟩
    go_wp2_with fail
    go_ret
    rw [HE.out.1, HE.out.2]
    exact ⟨_, rfl, ⟨Sl.nil _ _ _, fun c hc => by cases hc⟩, (HRV.out.setbad true).1, HR.out.2.trans (HRV.out.setbad true).2 (fun k hk e => e)⟩
  · have HE : Hid (byO s = tkO (nmS s 4) n ∧ byS s = tkS (nmS s 4) n) := by
      unfold byO byS
      rw [← HN.out, if_neg (by omega), if_neg (by omega)]
      exact ⟨rfl, rfl⟩
    go_wp2_with fail
    refine (take_any _ B rb rv _ n HRV.out).mono ?_
    rintro e w3 ⟨u, rfl, hu, hr3⟩
    have HU := hide hu
    have HR3 := hide hr3
    clear hu hr3
    go_wp2_with fail
    go_ret
    rw [HE.out.1, HE.out.2]
    exact ⟨_, rfl, HU.out, HR3.out.1, HR.out.2.trans HR3.out.2 (fun k hk e => e)⟩
set_option maxRecDepth 100000 in
set_option maxHeartbeats 4000000 in
theorem flag_rd (X : World) (B rb : Nat) (v : Value) (s : RS) (hB : B ≤ X.heap.size) (h : RdI X B rb v s) :
    Calls Try.prog 50 #[.pointer (some ⟨rb, 0, none⟩)] X fun e w' => e = .returned (.bool (fgO s)) ∧ RdQ X B rb (fgS s) w' := by
  have H := hide h
  clear h
  obtain ⟨n, hn⟩ : ∃ n : Int, n = nmO s 1 := ⟨_, rfl⟩
  obtain ⟨b, hb⟩ : ∃ b, b = (nmS s 1).2 := ⟨_, rfl⟩
  have HN := hide hn
  have HBD := hide hb
  obtain ⟨y, hy⟩ : ∃ y, y = fgO s := ⟨_, rfl⟩
  rw [← hy]
  have HY : Hid (y = decide (n = 1)) := by show _ = _; rw [hy, HN.out]; rfl
  have HS : Hid (fgS s = ((nmS s 1).1, b || decide (1 < n))) := by show _ = _; rw [HN.out, HBD.out]; rfl
  clear hy
  go_enter Try.func50, Try.ntmps50
  go_wp2_with fail
  refine (num_rd X B rb v s 1 hB H.out).mono ?_
  rintro e w2 ⟨rfl, hr⟩
  rw [← hn]
  have HR := hide hr
  obtain ⟨rv, hrv⟩ := hr.1
  have f1 := hrv.blk.frozen 1
  have r1 : w2.cell? ⟨rb, 1, none⟩ = some (.bool b) := by rw [hb]; exact hrv.blk.cell 1
  have hrl := hrv.blk.lt
  have HRV := hide hrv
  clear hrv hr hn hb
  have hd : (b = true ∨ b = false ∧ (1 < n ∨ n = 1 ∨ (¬ 1 < n ∧ n ≠ 1))) := by
    cases b
    · exact .inr ⟨rfl, by omega⟩
    · exact .inl rfl
  rcases hd with rfl | ⟨rfl, hd | rfl | ⟨hd, hd2⟩⟩
  · by_cases h1 : n = 1
    · subst h1
      go_wp2_with fail
      go_ret
      rw [HY.out, HS.out]
      exact ⟨rfl, (HRV.out.setbad true).1, HR.out.2.trans (HRV.out.setbad true).2 (fun k hk e => e)⟩
    · have HY2 : Hid (y = false) := by show _ = _; rw [HY.out]; exact decide_eq_false h1
      have h9 : (n == 1) = false := by simp [h1]
      clear h1
      go_wp2_with fail
      go_ret
      rw [HY2.out, HS.out]
      exact ⟨rfl, (HRV.out.setbad true).1, HR.out.2.trans (HRV.out.setbad true).2 (fun k hk e => e)⟩
  · have HY2 : Hid (y = false) := by show _ = _; rw [HY.out]; exact decide_eq_false (by omega)
    have HS2 : Hid (fgS s = ((nmS s 1).1, true)) := by show _ = _; rw [HS.out, decide_eq_true hd]; rfl
    have h9 : (n == 1) = false := by simp; omega
    go_wp2_with fail
    go_ret
    rw [HY2.out, HS2.out]
    exact ⟨rfl, (HRV.out.setbad true).1, HR.out.2.trans (HRV.out.setbad true).2 (fun k hk e => e)⟩
  · go_wp2_with fail
    go_ret
    rw [HY.out, HS.out]
    exact ⟨rfl, (HRV.out.setbad false).1, HR.out.2.trans (HRV.out.setbad false).2 (fun k hk e => e)⟩
  · have HY2 : Hid (y = false) := by show _ = _; rw [HY.out]; exact decide_eq_false hd2
    have HS2 : Hid (fgS s = ((nmS s 1).1, false)) := by show _ = _; rw [HS.out, decide_eq_false hd]; rfl
    have h9 : (n == 1) = false := by simp [hd2]
    have HG : Hid (decide (1 < n) = false) := decide_eq_false hd
    clear hd2
    go_wp2_with fail
    go_ret
    rw [HY2.out, HS2.out, HG.out]
    exact ⟨rfl, (HRV.out.setbad false).1, HR.out.2.trans (HRV.out.setbad false).2 (fun k hk e => e)⟩
end Go.Proofs.Ytkobaidamdffmaa

namespace Go.Proofs.Ytkobaidamdffmaa
open Go.RowKit
set_option linter.unusedVariables false
set_option linter.unusedSimpArgs false

theorem numL_back (T : Int) : ∀ (D : List Int) (z n : Int), Bytes8 D → 0 ≤ z → numL T z D = some n → n / 256 ^ D.length = z ∧ beN n D.length = D
  | [], z, n, _, _, h => by
    injection h with h
    subst h
    exact ⟨by simp, rfl⟩
  | c :: D, z, n, h8, hz, h => by
    unfold numL at h
    split at h
    · cases h
    · have hc := h8 c List.mem_cons_self
      obtain ⟨h1, h2⟩ := numL_back T D (z * 256 + c) n (fun x hx => h8 x (List.mem_cons_of_mem _ hx)) (by omega) h
      refine ⟨?_, ?_⟩
      · rw [List.length_cons, Int.pow_succ, ← Int.ediv_ediv_of_nonneg (Int.pow_nonneg (by omega)), h1]
        omega
      · rw [List.length_cons, beN, h1, h2]
        congr 1
        omega
theorem numL_fwd (T n : Int) (hT : n < T) (hn : 0 ≤ n) : ∀ c, numL T (n / 256 ^ c) (beN n c) = some n
  | 0 => by simp [beN, numL]
  | c + 1 => by
    have hp : (0 : Int) < 256 ^ (c + 1) := Int.pow_pos (by omega)
    have h1 : n / 256 ^ (c + 1) ≤ n := Int.ediv_le_self _ hn
    rw [beN, numL, if_neg (by omega)]
    have h2 : n / 256 ^ (c + 1) = n / 256 ^ c / 256 := by rw [Int.pow_succ, Int.ediv_ediv_of_nonneg (Int.pow_nonneg (by omega))]
    rw [h2, show n / 256 ^ c / 256 * 256 + n / 256 ^ c % 256 = n / 256 ^ c by omega]
    exact numL_fwd T n hT hn c
theorem numL_zero (T n : Int) (c : Nat) (hT : n < T) (hn : 0 ≤ n) (hc : n < 256 ^ c) : numL T 0 (beN n c) = some n := by
  have h1 := numL_fwd T n hT hn c
  rwa [Int.ediv_eq_zero_of_lt hn hc] at h1
theorem numL_lt (T : Int) (D : List Int) (n : Int) (h8 : Bytes8 D) (h : numL T 0 D = some n) : n < 256 ^ D.length := by
  have h1 := (numL_back T D 0 n h8 (Int.le_refl _) h).1
  have hp : (0 : Int) < 256 ^ D.length := Int.pow_pos (by omega)
  rcases (by omega : n < 256 ^ D.length ∨ n ≥ 256 ^ D.length) with h2 | h2
  · exact h2
  · have h3 := Int.le_ediv_of_mul_le hp (show (1 : Int) * 256 ^ D.length ≤ n by omega)
    omega

theorem tk_inv {s : RS} {n : Nat} (h : (tkS s n).2 = false) : s.2 = false ∧ n ≤ s.1.length ∧ tkS s n = (s.1.drop n, false) ∧ tkO s n = s.1.take n := by
  unfold tkS at h
  split at h
  · cases h
  · next h1 =>
    unfold tkS tkO
    rw [if_neg h1, if_neg h1]
    refine ⟨?_, ?_, rfl, rfl⟩
    · cases hs : s.2
      · rfl
      · exact absurd (.inl hs) h1
    · have h2 : ¬ s.1.length < n := fun h9 => h1 (.inr h9)
      omega
theorem tk_fwd (k r : List Int) : tkO (k ++ r, false) k.length = k ∧ tkS (k ++ r, false) k.length = (r, false) := by
  have h1 : ¬ ((k ++ r, false).2 = true ∨ (k ++ r, false).1.length < k.length) := by simp
  unfold tkO tkS
  rw [if_neg h1, if_neg h1]
  exact ⟨by simp, by simp⟩
theorem nm_inv {s : RS} {c : Nat} (h8 : Bytes8 s.1) (h : (nmS s c).2 = false) : s.2 = false ∧ s.1 = beN (nmO s c) c ++ (nmS s c).1 ∧ 0 ≤ nmO s c ∧ nmO s c < 256 ^ c ∧ Bytes8 (nmS s c).1 := by
  have h0 : numL 18014398509481984 0 (tkO s c) ≠ none := by
    intro h9
    unfold nmS at h
    rw [if_pos h9] at h
    cases h
  have h1 : nmS s c = tkS s c := by unfold nmS; rw [if_neg h0]
  rw [h1] at h
  obtain ⟨h2, h3, h4, h5⟩ := tk_inv h
  obtain ⟨n, hn⟩ := Option.ne_none_iff_exists'.1 h0
  have h6 : nmO s c = n := by unfold nmO; rw [hn]; rfl
  rw [h1, h4, h6]
  rw [h5] at hn
  have hl : (s.1.take c).length = c := by rw [List.length_take]; omega
  have h7 := numL_back _ _ 0 n (h8.take c) (Int.le_refl _) hn
  have h9 := numL_lt _ _ n (h8.take c) hn
  rw [hl] at h7 h9
  refine ⟨h2, ?_, numL_pos _ _ 0 n (h8.take c) (Int.le_refl _) hn, h9, h8.drop c⟩
  rw [h7.2, List.take_append_drop]
theorem nm_fwd (n : Int) (c : Nat) (r : List Int) (hn : 0 ≤ n ∧ n < 18014398509481984) (hc : n < 256 ^ c) : nmO (beN n c ++ r, false) c = n ∧ nmS (beN n c ++ r, false) c = (r, false) := by
  have h1 := tk_fwd (beN n c) r
  rw [beN_len] at h1
  have h2 := numL_zero 18014398509481984 n c hn.2 hn.1 hc
  unfold nmO nmS
  rw [h1.1, h1.2, h2, if_neg (by simp)]
  exact ⟨rfl, rfl⟩
theorem by_inv {s : RS} (h8 : Bytes8 s.1) (h : (byS s).2 = false) : s.2 = false ∧ s.1 = beN (byO s).length 4 ++ (byO s ++ (byS s).1) ∧ (byO s).length ≤ 1048576 ∧ Bytes8 (byO s) ∧ Bytes8 (byS s).1 := by
  by_cases h1 : 1048576 < nmO s 4
  · unfold byS at h
    rw [if_pos h1] at h
    cases h
  · have e1 : byS s = tkS (nmS s 4) (nmO s 4).toNat := by unfold byS; rw [if_neg h1]
    have e2 : byO s = tkO (nmS s 4) (nmO s 4).toNat := by unfold byO; rw [if_neg h1]
    rw [e1] at h
    obtain ⟨h2, h3, h4, h5⟩ := tk_inv h
    obtain ⟨k1, k2, k3, k4, k5⟩ := nm_inv h8 h2
    have hl : (byO s).length = (nmO s 4).toNat := by rw [e2, h5, List.length_take]; omega
    refine ⟨k1, ?_, by rw [hl]; omega, by rw [e2, h5]; exact k5.take _, by rw [e1, h4]; exact k5.drop _⟩
    rw [hl, Int.toNat_of_nonneg k3, e1, e2, h4, h5, List.take_append_drop]
    exact k2
theorem by_fwd (k r : List Int) (hk : k.length ≤ 1048576) : byO (beN k.length 4 ++ (k ++ r), false) = k ∧ byS (beN k.length 4 ++ (k ++ r), false) = (r, false) := by
  have h1 := nm_fwd (k.length : Int) 4 (k ++ r) (by omega) (by omega)
  unfold byO byS
  rw [h1.1, h1.2, if_neg (by omega), if_neg (by omega), Int.toNat_natCast]
  exact tk_fwd k r
theorem beN_one (n : Int) : beN n 1 = [n % 256] := by simp [beN]
theorem fg_inv {s : RS} (h8 : Bytes8 s.1) (h : (fgS s).2 = false) : s.2 = false ∧ s.1 = (if fgO s then 1 else 0) :: (fgS s).1 ∧ Bytes8 (fgS s).1 := by
  have h1 : (nmS s 1).2 = false ∧ ¬ 1 < nmO s 1 := by
    unfold fgS at h
    simpa using h
  obtain ⟨k1, k2, k3, k4, k5⟩ := nm_inv h8 h1.1
  refine ⟨k1, ?_, k5⟩
  rw [beN_one] at k2
  have h2 : nmO s 1 % 256 = if fgO s then 1 else 0 := by
    unfold fgO
    split
    · next h9 => have := of_decide_eq_true h9; omega
    · next h9 => have : ¬ nmO s 1 = 1 := fun h7 => h9 (decide_eq_true h7); omega
  rw [h2] at k2
  exact k2
theorem fg_fwd (b : Bool) (r : List Int) : fgO ((if b then 1 else 0) :: r, false) = b ∧ fgS ((if b then 1 else 0) :: r, false) = (r, false) := by
  have h1 := nm_fwd (if b then 1 else 0) 1 r (by split <;> omega) (by split <;> omega)
  have h2 : beN (if b then 1 else 0) 1 ++ r = (if b then 1 else 0) :: r := by cases b <;> rfl
  rw [h2] at h1
  unfold fgO fgS
  rw [h1.1, h1.2]
  cases b <;> simp
end Go.Proofs.Ytkobaidamdffmaa

namespace Go.Proofs.Ytkobaidamdffmaa
open Go.RowKit
set_option linter.unusedVariables false
set_option linter.unusedSimpArgs false

/-- a number at the head of bytes -/
def ngR (E : List Int) (c : Nat) : Option Int := if E.length < c then none else numL 1125899906842625 0 (E.take c)

set_option maxRecDepth 100000 in
set_option maxHeartbeats 4000000 in
theorem rget_any (w : World) (v : Value) (D : List Int) (m a c B : Nat) (hs : Sl w B v 1 m (bys D)) (hD : D.length = m) (h8 : Bytes8 D) (hB : B ≤ w.heap.size) (ha : a ≤ m) (hc : c ≤ 8) :
    Calls Try.prog 52 #[v, .int .i64 a, .int .i64 c] w fun e w' => e = .returned (.tuple #[.int .i64 ((ngR (D.drop a) c).getD 0), .bool (ngR (D.drop a) c).isSome]) ∧ w' = w := by
  obtain ⟨vA, vc, rfl, hvc⟩ := hs.form
  have hmx := hs.inv.2.2.1
  have HS := hide hs
  have H8 := hide h8
  have HD := hide hD
  clear hs h8 hD
  obtain ⟨r, hr⟩ : ∃ r, r = ngR (D.drop a) c := ⟨_, rfl⟩
  rw [← hr]
  have HR := hide hr
  clear hr
  by_cases hl : m - a < c
  · have HE : Hid (r = none) := by
      show _ = _
      rw [HR.out]
      unfold ngR
      rw [List.length_drop, HD.out, if_pos hl]
    have hg : (m : Int) - (a : Int) < (c : Int) := by omega
    have hg2 : ¬ (m : Int) < (a : Int) := by omega
    go_enter Try.func52, Try.ntmps52
    go_wp2_with fail
    go_ret2
    rw [HE.out]
    exact ⟨rfl, rfl⟩
  · have HE : Hid (r = numL 1125899906842625 0 ((D.drop a).take c)) := by
      show _ = _
      rw [HR.out]
      unfold ngR
      rw [List.length_drop, HD.out, if_neg hl]
    have hg : ¬ (m : Int) - (a : Int) < (c : Int) := by omega
    have hg2 : ¬ (m : Int) < (a : Int) := by omega
    go_enter Try.func52, Try.ntmps52
    go_wp2_with fail
    go_loopw [8, 9] (fun nv i wr => ∃ (k : Nat) (z : Int), k ≤ c ∧ i = .int .i64 k ∧ nv = .int .i64 z ∧ 0 ≤ z ∧ z < 4611686018427387904 ∧ wr = w ∧ Hid (r = numL 1125899906842625 z (((D.drop a).take c).drop k))) (fun _ i _ => c - (intOf i).toNat)
    case atStart => exact ⟨0, 0, Nat.zero_le _, rfl, rfl, by omega, by omega, rfl, by rw [List.drop_zero]; exact HE.out⟩
    case round =>
      obtain ⟨k, z, hk, rfl, rfl, hz, hz2, rfl, HN⟩ := hrel
      by_cases hlt : k < c
      · have hpm : a + k < m := by omega
        obtain ⟨ad, rfl, hab, hac⟩ := by_at HS.out hpm HD.out
        have habz : (ad.add (a + k)).block < wr.heap.size := Nat.lt_of_lt_of_le hab hB
        obtain ⟨cc, hcc⟩ : ∃ cc, cc = D[a + k]'(by have := HD.out; omega) := ⟨_, rfl⟩
        rw [← hcc] at hac
        have hc8 : 0 ≤ cc ∧ cc ≤ 255 := by rw [hcc]; exact H8.out _ (List.getElem_mem _)
        have HDD : Hid (((D.drop a).take c).drop k = cc :: ((D.drop a).take c).drop (k + 1)) := by
          show _ = _
          have h9 : k < ((D.drop a).take c).length := by rw [List.length_take, List.length_drop]; have := HD.out; omega
          rw [List.drop_eq_getElem_cons h9]
          congr 1
          rw [hcc]
          simp
        clear hcc
        by_cases hT : 1125899906842625 ≤ z
        · have HZ : Hid (r = none) := by
            show _ = _
            rw [HN.out, HDD.out, numL, if_pos hT]
          have hT2 : (1125899906842624 : Int) < z := by omega
          go_wp2_with fail
          go_ret2
          rw [HZ.out]
          exact ⟨rfl, rfl⟩
        · have HN2 : Hid (r = numL 1125899906842625 (z * 256 + cc) (((D.drop a).take c).drop (k + 1))) := by
            show _ = _
            rw [HN.out, HDD.out, numL, if_neg hT]
          have hz3 : z < 1125899906842625 := by omega
          have hT2 : ¬ (1125899906842624 : Int) < z := by omega
          go_wp2_with fail
          go_roundw
          case rel => exact ⟨k + 1, z * 256 + cc, by omega, rfl, rfl, by omega, by omega, trivial, HN2.out⟩
          case measure => simp [intOf]; omega
      · obtain rfl : k = c := by omega
        have HZ : Hid (r = some z) := by
          show _ = _
          rw [HN.out, List.drop_eq_nil_of_le (by rw [List.length_take]; omega)]
          rfl
        go_wp2_with fail
        go_ret2
        rw [HZ.out]
        exact ⟨rfl, rfl⟩
end Go.Proofs.Ytkobaidamdffmaa

namespace Go.Proofs.Ytkobaidamdffmaa
open Go.RowKit Go.Sort
set_option linter.unusedVariables false
set_option linter.unusedSimpArgs false

theorem strOf_toList (D : List Int) : (strOfNums D).toList = D.map (fun n => UInt8.ofNat n.toNat) := by
  rw [ByteArray.toList_eq, strOfNums_data]
theorem less_eq : ∀ (D E : List Int), Bytes8 D → Bytes8 E → Op.bytesLess (D.map (fun n => UInt8.ofNat n.toNat)) (E.map (fun n => UInt8.ofNat n.toNat)) = decide (cmpB D E < 0)
  | [], [], _, _ => rfl
  | [], _ :: _, _, _ => rfl
  | _ :: _, [], _, _ => rfl
  | d :: D, e :: E, h1, h2 => by
    have hd := h1 d List.mem_cons_self
    have he := h2 e List.mem_cons_self
    have ih := less_eq D E (fun c hc => h1 c (List.mem_cons_of_mem _ hc)) (fun c hc => h2 c (List.mem_cons_of_mem _ hc))
    rw [List.map_cons, List.map_cons, Op.bytesLess, cmpB, ih]
    have l1 : (UInt8.ofNat d.toNat < UInt8.ofNat e.toNat) ↔ d < e := by
      rw [UInt8.lt_iff_toNat_lt]
      simp
      omega
    have l2 : (UInt8.ofNat d.toNat = UInt8.ofNat e.toNat) ↔ d = e := by
      constructor
      · intro h
        have h3 := congrArg UInt8.toNat h
        simp only [UInt8.toNat_ofNat'] at h3
        omega
      · intro h; rw [h]
    by_cases h3 : d < e
    · simp [l1, h3]
    · by_cases h4 : e < d
      · have h5 : ¬ d = e := by omega
        simp [l1, l2, h3, h4, h5]
      · have h5 : d = e := by omega
        subst h5
        simp

theorem snan (w : World) (x : ByteArray) : Calls Try.prog 81 #[.string x] w fun e w' => e = .returned (.bool false) ∧ w' = w := by
  have h : (x.toList == x.toList) = true := by simp
  have h2 : (x.toList != x.toList) = false := by simp
  go_enter Try.func81, Try.ntmps81
  go_wp2_with fail
  go_ret
  exact ⟨by simp, rfl⟩
theorem scmp_any (D E : List Int) (w : World) (h1 : Bytes8 D) (h2 : Bytes8 E) : Calls Try.prog 70 #[.string (strOfNums D), .string (strOfNums E)] w fun e w' => e = .returned (.int .i64 (cmpB D E)) ∧ w' = w := by
  have k1 : Op.bytesLess (strOfNums D).toList (strOfNums E).toList = decide (cmpB D E < 0) := by
    rw [strOf_toList, strOf_toList]
    exact less_eq D E h1 h2
  have k2 : ((strOfNums D).toList == (strOfNums E).toList) = decide (cmpB D E = 0) := by
    rw [str_eq D E h1 h2]
    exact decide_eq_decide.2 (cmpB_zero D E).symm
  have hn : cmpB D E = -1 ∨ cmpB D E = 0 ∨ cmpB D E = 1 := by
    clear k1 k2
    induction D generalizing E with
    | nil => cases E <;> simp [cmpB]
    | cons d D ih =>
      cases E with
      | nil => simp [cmpB]
      | cons e E =>
        unfold cmpB
        have := ih E (fun c hc => h1 c (List.mem_cons_of_mem _ hc)) (fun c hc => h2 c (List.mem_cons_of_mem _ hc))
        split
        · simp
        · split
          · simp
          · exact this
  generalize strOfNums D = s at *
  generalize strOfNums E = t at *
  generalize cmpB D E = c at *
  rcases hn with rfl | rfl | rfl
  all_goals
    simp only [show ((-1 : Int) < 0) = True by decide, show ((-1 : Int) = 0) = False by decide, show ((0 : Int) < 0) = False by decide, show ((1 : Int) < 0) = False by decide, show ((1 : Int) = 0) = False by decide, decide_true, decide_false] at k1 k2
    go_enter Try.func70, Try.ntmps70
    go_wp2_with (go_at_call 81; refine (snan _ _).mono ?_; rintro e w' ⟨rfl, rfl⟩)
    go_ret
    exact ⟨rfl, rfl⟩

/-- the order of places -/
def ordP (x y : PK) : Int := if wlt x.win y.win then -1 else if wlt y.win x.win then 1 else cmpB x.b y.b
theorem grow_trans {w w1 w2 : World} (h : ∃ q os, w1 = grow (w.drewN q) os) (k : ∃ q os, w2 = grow (w1.drewN q) os) : ∃ q os, w2 = grow (w.drewN q) os := by
  obtain ⟨q, os, rfl⟩ := h
  obtain ⟨q', os', rfl⟩ := k
  refine ⟨q + q', os ++ os', ?_⟩
  show grow (grow ((w.drewN q).drewN q') os) os' = _
  rw [grow_grow]
  congr 1
  rw [World.drewN_drewN]
theorem grow_alloc (w : World) (o : Obj) : ∃ q os, w.alloc o = grow (w.drewN q) os := ⟨0, _, by rw [alloc_eq_grow]; rfl⟩
theorem grow_bel {w w' : World} (h : ∃ q os, w' = grow (w.drewN q) os) : Below w.heap.size w w' := by
  obtain ⟨q, os, rfl⟩ := h
  exact grow_below q os
theorem less_grow7 (af at_ bf bt : Int) (w : World) : Calls Try.prog 69 #[.agg #[.int .i64 af, .int .i64 at_], .agg #[.int .i64 bf, .int .i64 bt]] w fun e w' => e = .returned (.bool (decide (wlt ⟨af, at_⟩ ⟨bf, bt⟩))) ∧ ∃ q os, w' = grow (w.drewN q) os := by
  obtain ⟨r, hr⟩ : ∃ r : Bool, r = decide (wlt ⟨af, at_⟩ ⟨bf, bt⟩) := ⟨_, rfl⟩
  rw [← hr]
  have HR : Hid (r = decide (ordI ⟨af, at_⟩ ⟨bf, bt⟩ < 0)) := by show _ = _; rw [hr]; exact decide_eq_decide.2 (ordI_neg _ _).symm
  clear hr
  go_enter Try.func69, Try.ntmps69
  go_wp2_with fail
  refine (order_any7 af at_ bf bt _).mono ?_
  rintro e w2 ⟨rfl, q, os, rfl⟩
  have HB2 : Hid (∃ q' os', grow (((w.alloc (.cells #[.int .i64 af, .int .i64 at_] wT)).alloc (.cells #[.int .i64 bf, .int .i64 bt] wT)).drewN q) os = grow (w.drewN q') os') := ⟨q, _, by rw [alloc_eq_grow, alloc_eq_grow, grow_grow]; show grow (grow (w.drewN q) _) os = _; rw [grow_grow]⟩
  generalize grow (World.drewN _ q) os = w3 at *
  generalize ordI ⟨af, at_⟩ ⟨bf, bt⟩ = x at *
  go_wp2_with fail
  go_ret
  rw [HR.out]
  exact ⟨rfl, HB2.out⟩

set_option maxHeartbeats 4000000 in
theorem pord_any (x y : PK) (w : World) : Calls Try.prog 51 #[.agg #[.string (strOfNums x.b), .int .i64 x.f, .int .i64 x.t], .agg #[.string (strOfNums y.b), .int .i64 y.f, .int .i64 y.t]] w fun e w' => e = .returned (.int .i64 (ordP x y)) ∧ ∃ q os, w' = grow (w.drewN q) os := by
  obtain ⟨xb, xf, xt, xo⟩ := x
  obtain ⟨yb, yf, yt, yo⟩ := y
  have HSC := hide (fun W => scmp_any xb yb W xo.1 yo.1)
  obtain ⟨r, hr⟩ : ∃ r, r = ordP ⟨xb, xf, xt, xo⟩ ⟨yb, yf, yt, yo⟩ := ⟨_, rfl⟩
  rw [← hr]
  have HR : Hid (r = if wlt ⟨xf, xt⟩ ⟨yf, yt⟩ then -1 else if wlt ⟨yf, yt⟩ ⟨xf, xt⟩ then 1 else cmpB xb yb) := hr
  simp only
  generalize hxs : strOfNums xb = xs at *
  generalize hys : strOfNums yb = ys at *
  clear hr hxs hys
  have HG : Hid (∃ q os, ((w.alloc (.cells #[.string xs, .int .i64 xf, .int .i64 xt] plT)).alloc (.cells #[.string ys, .int .i64 yf, .int .i64 yt] plT)) = grow (w.drewN q) os) := grow_trans (grow_alloc _ _) (grow_alloc _ _)
  have HP : Hid (Blk ((w.alloc (.cells #[.string xs, .int .i64 xf, .int .i64 xt] plT)).alloc (.cells #[.string ys, .int .i64 yf, .int .i64 yt] plT)) w.heap.size plT #[.string xs, .int .i64 xf, .int .i64 xt]) := (Blk.new w _ _).alloc _
  have HQ : Hid (Blk ((w.alloc (.cells #[.string xs, .int .i64 xf, .int .i64 xt] plT)).alloc (.cells #[.string ys, .int .i64 yf, .int .i64 yt] plT)) (w.heap.size + 1) plT #[.string ys, .int .i64 yf, .int .i64 yt]) := by
    have h9 := Blk.new (w.alloc (.cells #[.string xs, .int .i64 xf, .int .i64 xt] plT)) plT #[.string ys, .int .i64 yf, .int .i64 yt]
    simpa [Hid] using h9
  go_enter Try.func51, Try.ntmps51
  go_wp2_with fail
  generalize (w.alloc (.cells #[.string xs, .int .i64 xf, .int .i64 xt] plT)).alloc (.cells #[.string ys, .int .i64 yf, .int .i64 yt] plT) = w1 at *
  obtain ⟨pb, hpb⟩ : ∃ pb, pb = w.heap.size := ⟨_, rfl⟩
  obtain ⟨qb, hqb⟩ : ∃ qb, qb = w.heap.size + 1 := ⟨_, rfl⟩
  rw [← hqb] at HQ ⊢
  rw [← hpb] at HP ⊢
  clear hpb hqb
  refine (less_grow7 xf xt yf yt w1).mono ?_
  rintro e w2 ⟨rfl, hg2⟩
  have HG2 := hide (grow_trans HG.out hg2)
  have HP2 := hide (HP.out.below (grow_bel hg2) HP.out.lt)
  have HQ2 := hide (HQ.out.below (grow_bel hg2) HQ.out.lt)
  clear hg2
  by_cases h1 : wlt ⟨xf, xt⟩ ⟨yf, yt⟩
  · have HF : Hid (r = -1) := by rw [Hid, HR.out, if_pos h1]
    rw [decide_eq_true h1]
    clear h1
    go_wp2_with fail
    go_ret
    rw [HF.out]
    exact ⟨rfl, HG2.out⟩
  · have HF : Hid (r = if wlt ⟨yf, yt⟩ ⟨xf, xt⟩ then 1 else cmpB xb yb) := by rw [Hid, HR.out, if_neg h1]
    rw [decide_eq_false h1]
    clear h1
    have p1 : w2.cell? ⟨pb, 1, none⟩ = some (.int .i64 xf) := HP2.out.cell 1
    have p2 : w2.cell? ⟨pb, 2, none⟩ = some (.int .i64 xt) := HP2.out.cell 2
    have q1 : w2.cell? ⟨qb, 1, none⟩ = some (.int .i64 yf) := HQ2.out.cell 1
    have q2 : w2.cell? ⟨qb, 2, none⟩ = some (.int .i64 yt) := HQ2.out.cell 2
    have hpl := HP2.out.lt
    have hql := HQ2.out.lt
    go_wp2_with fail
    refine (less_grow7 yf yt xf xt w2).mono ?_
    rintro e w3 ⟨rfl, hg3⟩
    have HG3 := hide (grow_trans HG2.out hg3)
    have HP3 := hide (HP2.out.below (grow_bel hg3) HP2.out.lt)
    have HQ3 := hide (HQ2.out.below (grow_bel hg3) HQ2.out.lt)
    clear hg3 p1 p2 q1 q2 hpl hql
    by_cases h2 : wlt ⟨yf, yt⟩ ⟨xf, xt⟩
    · have HE : Hid (r = 1) := by rw [Hid, HF.out, if_pos h2]
      rw [decide_eq_true h2]
      clear h2
      go_wp2_with fail
      go_ret
      rw [HE.out]
      exact ⟨rfl, HG3.out⟩
    · have HE : Hid (r = cmpB xb yb) := by rw [Hid, HF.out, if_neg h2]
      rw [decide_eq_false h2]
      clear h2
      have p0 : w3.cell? ⟨pb, 0, none⟩ = some (.string xs) := HP3.out.cell 0
      have q0 : w3.cell? ⟨qb, 0, none⟩ = some (.string ys) := HQ3.out.cell 0
      have hpl := HP3.out.lt
      have hql := HQ3.out.lt
      go_wp2_with fail
      refine (HSC.out w3).mono ?_
      rintro e w4 ⟨rfl, rfl⟩
      go_wp2_with fail
      go_ret
      rw [HE.out]
      exact ⟨rfl, HG3.out⟩

end Go.Proofs.Ytkobaidamdffmaa
