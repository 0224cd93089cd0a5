/- cells.Decode. -/
import Derived.Test.YtkobaidamdffmaaQCellsDecodes25

namespace Go.Proofs.Ytkobaidamdffmaa
open Go.RowKit Go.Sort
set_option linter.unusedVariables false
set_option linter.unusedSimpArgs false

theorem DcW.put {w X Y : World} {tb cb rb lb : Nat} {L L' : List (PK × CV)} {lcs : Array Value} {rv : Value} {s : RS} {p : PK} (h : DcW w X tb cb rb lb L lcs rv s) (ht : TabS Y w.heap.size tb cb none none false L' (kpW false L [] [] p) (kpF false L [] [] p)) (hf : Fr (TBk tb cb none none false) X Y) : DcW w Y tb cb rb lb L' lcs rv s :=
  ⟨⟨ht.stop (bg := false) _ _, h.tab.after hf⟩, hf.blk h.lst (h.tab.ts.nblk h.lst (by decide)), ⟨hf.blk h.rd.blk (h.tab.ts.nblk h.rd.blk (by decide)), h.rd.sl.fr hf h.tab.bl.size (fun k hk e => by have := (h.tab.ts.lows k e).1; omega), h.rd.lo, h.rd.b8⟩, h.lo⟩
/-- a slice of bytes -/
def SlP (X : World) (B : Nat) (v : Value) (n : Nat) (D : List Int) : Prop := Sl X B v 1 n (bys D) ∧ D.length = n ∧ Bytes8 D
/-- behind Decode -/
def DecQ (w : World) (D : List Int) (e : Ending) (w' : World) : Prop :=
  (∃ tb cb L, DecT D (L.map fun x => (x.1, x.2.d)) ∧ e = .returned (.tuple #[.pointer (some ⟨tb, 0, none⟩), .int .i64 0]) ∧ TabG w w' tb cb none none false L [] []) ∨
  ((∀ M, ¬ DecT D M) ∧ e = .returned (.tuple #[.pointer none, .int .i64 112]) ∧ Below w.heap.size w w')
set_option maxRecDepth 100000 in
set_option maxHeartbeats 16000000 in
theorem cdecode_any (w : World) (v : Value) (D : List Int) (hs : Sl w w.heap.size v 1 D.length (bys D)) (h8 : Bytes8 D) :
    Calls Try.prog 25 #[v] w (DecQ w D) := by
  obtain ⟨vA, vc, rfl, hvc⟩ := hs.form
  have HS := hide hs
  have H8 := hide h8
  obtain ⟨vn, hvn⟩ : ∃ n, n = D.length := ⟨_, rfl⟩
  rw [← hvn] at hvc ⊢
  have HVN := hide hvn
  clear hs h8 hvn
  obtain ⟨n, hn⟩ : ∃ n : Nat, nmO (D, false) 4 = (n : Int) := ⟨(nmO (D, false) 4).toNat, (Int.toNat_of_nonneg (nmO_pos 4 H8.out)).symm⟩
  have hnl : (n : Int) < 4294967296 := by have := nmO_lt (s := (D, false)) 4 H8.out; omega
  have HN := hide hn
  clear hn
  go_enter Try.func25, Try.ntmps25
  go_wp2_with fail
  refine (cnew_any w w.heap.size (Nat.le_refl _)).mono ?_
  rintro e w2 ⟨tb, cb, rfl, ht, hb⟩
  have HT2 : Hid (TabG w w2 tb cb none none false [] [] []) := ⟨ht, hb⟩
  clear ht hb
  have hz2 := HT2.out.bl.size
  go_wp2_with fail
  have HR2 : Hid (RdI (w2.alloc (.cells #[.slice vA vn vc, .bool false] rdT)) w.heap.size w2.heap.size (.slice vA vn vc) (D, false)) := by
    refine ⟨Blk.new w2 _ _, ?_, hz2, H8.out⟩
    have h9 := HS.out.below (HT2.out.bl.alloc hz2 (.cells #[.slice vA vn vc, .bool false] rdT))
    rw [← HVN.out] at h9
    show Sl _ _ _ 1 D.length _
    rw [← HVN.out]
    exact h9
  refine (num_rd _ w.heap.size w2.heap.size _ (D, false) 4 (by simp; omega) HR2.out).mono ?_
  rintro e w3 ⟨rfl, hq⟩
  rw [HN.out]
  have HT3 : Hid (TabG w w3 tb cb none none false [] [] []) := (HT2.out.below ((Below.refl _ _).alloc (Nat.le_refl _) _)).far HR2.out.blk hq.2 (by decide) (by decide) hz2
  have HQ3 : Hid (RdQ (w2.alloc (.cells #[.slice vA vn vc, .bool false] rdT)) w.heap.size w2.heap.size (nmS (D, false) 4) w3) := hq
  clear hq HR2 HT2
  have hz3 := HT3.out.bl.size
  obtain ⟨rb, hrb⟩ : ∃ rb, rb = w2.heap.size := ⟨_, rfl⟩
  rw [← hrb] at HQ3 ⊢
  clear hrb
  obtain ⟨rv0, hrv⟩ := HQ3.out.1
  have HW3 : Hid (DcW w (w3.alloc (.cells #[.string ⟨#[]⟩, .int .i64 0, .int .i64 0] plT)) tb cb rb w3.heap.size [] #[.string ⟨#[]⟩, .int .i64 0, .int .i64 0] rv0 (nmS (D, false) 4)) :=
    ⟨HT3.out.below ((Below.refl _ _).alloc (Nat.le_refl _) _), Blk.new _ _ _, hrv.below ((Below.refl _ _).alloc (Nat.le_refl _) _), hz3⟩
  clear HQ3 HT3 hrv
  have HP3 := hide (DcP.start (lcs := #[.string ⟨#[]⟩, .int .i64 0, .int .i64 0]) H8.out HN.out)
  obtain ⟨s0, hs0⟩ : ∃ s, s = nmS (D, false) 4 := ⟨_, rfl⟩
  rw [← hs0] at HW3 HP3
  clear hs0
  go_wp2_with fail
  go_loopw [8] (fun i wr => ∃ (k : Nat) (L : List (PK × CV)) (q : Option PK) (lcs : Array Value) (rv : Value) (s : RS), k ≤ n ∧ i = .int .i64 k ∧ Hid (∃ y0 y1 y2, lcs = #[y0, y1, y2]) ∧ Hid (DcP D n k L q lcs s) ∧ Hid (DcW w wr tb cb rb w3.heap.size L lcs rv s)) (fun i _ => n - (intOf i).toNat)
  case atStart => exact ⟨0, [], none, _, rv0, s0, Nat.zero_le _, rfl, ⟨_, _, _, rfl⟩, HP3.out, HW3.out⟩
  case round =>
  clear HW3 HP3
  obtain ⟨k, L, q, lcs, rv, s, hk, rfl, HL3, HP, HW⟩ := hrel
  obtain ⟨lb, hlb⟩ : ∃ b, b = w3.heap.size := ⟨_, rfl⟩
  rw [← hlb] at HW ⊢
  have HLB := hide hlb
  clear hlb
  have r1 : wr.cell? ⟨rb, 1, none⟩ = some (.bool s.2) := HW.out.rd.blk.cell 1
  have hrl := HW.out.rd.blk.lt
  by_cases hlt : k < n
  · have hs2 : s.2 = false := by
      cases hs : s.2
      · rfl
      · exact absurd (HP.out.bad hs).1 (by omega)
    rw [hs2] at r1
    have HS2 := hide hs2
    have HLC0 : Hid (∃ y0 y1 y2, lcs = #[y0, y1, y2]) := HL3.out
    clear hs2
    go_wp2_with fail
    have hz : w.heap.size ≤ wr.heap.size := HW.out.tab.bl.size
    have HW0 : Hid (DcW w (wr.alloc (.cells #[.slice none 0 0, .int .i64 0, .int .i64 0] keyT)) tb cb rb lb L lcs rv s) := HW.out.alloc _
    have HK0 : Hid (Blk (wr.alloc (.cells #[.slice none 0 0, .int .i64 0, .int .i64 0] keyT)) wr.heap.size keyT #[.slice none 0 0, .int .i64 0, .int .i64 0]) := Blk.new _ _ _
    have H8s := hide HW.out.rd.b8
    clear HW r1 hrl
    obtain ⟨kb, hkb⟩ : ∃ b, b = wr.heap.size := ⟨_, rfl⟩
    rw [← hkb] at HK0 ⊢
    have hkbz : w.heap.size ≤ kb := by rw [hkb]; exact hz
    clear hkb hz
    refine (num_rd _ w.heap.size rb _ s 4 HW0.out.tab.bl.size HW0.out.rd).mono ?_
    rintro e w4 ⟨rfl, hq⟩
    have hxf : 0 ≤ nmO s 4 ∧ nmO s 4 < 4294967296 := ⟨nmO_pos 4 HW0.out.rd.b8, nmO_lt 4 HW0.out.rd.b8⟩
    obtain ⟨xf, hvxf⟩ : ∃ x, x = nmO s 4 := ⟨_, rfl⟩
    rw [← hvxf] at hxf ⊢
    have HVxf := hide hvxf
    clear hvxf
    replace hq : RdQ _ w.heap.size rb (q1 s) w4 := hq
    obtain ⟨rv4, hw4⟩ := HW0.out.rdq hq
    have HW4 := hide hw4
    have Hkb4 : Hid (Blk w4 kb keyT #[.slice none 0 0, .int .i64 0, .int .i64 0]) := hq.2.blk HK0.out (fun e => by have h9 := HK0.out; rw [e] at h9; exact h9.apart HW0.out.rd.blk (by decide) rfl)
    clear hq hw4 HW0 HK0 
    have kbc0 : w4.cell? ⟨kb, 0, none⟩ = some (.slice none 0 0) := Hkb4.out.cell 0
    have kbc1 : w4.cell? ⟨kb, 1, none⟩ = some (.int .i64 0) := Hkb4.out.cell 1
    have kbc2 : w4.cell? ⟨kb, 2, none⟩ = some (.int .i64 0) := Hkb4.out.cell 2
    have kbf0 := Hkb4.out.frozen 0
    have kbf1 := Hkb4.out.frozen 1
    have kbf2 := Hkb4.out.frozen 2
    have kbl := Hkb4.out.lt
    go_wp2_with fail
    clear kbc0 kbf0 kbc1 kbf1 kbc2 kbf2 kbl
    have hf5 : Fr (fun j => j = kb) w4 (w4.setCell ⟨kb, 1, none⟩ (.int .i64 (xf - 4194304))) := ((Fr.refl _ _).put1 1 _)
    have HW5 : Hid (DcW w (w4.setCell ⟨kb, 1, none⟩ (.int .i64 (xf - 4194304))) tb cb rb lb L lcs _ (q1 s)) := HW4.out.far Hkb4.out hf5 (by decide) hkbz
    have Hkb5 : Hid (Blk (w4.setCell ⟨kb, 1, none⟩ (.int .i64 (xf - 4194304))) kb keyT #[.slice none 0 0, .int .i64 (xf - 4194304), .int .i64 0]) := hide (by have h9 := (Hkb4.out.put 1 (.int .i64 (xf - 4194304))); simpa using h9)
    clear hf5 HW4 Hkb4 
    generalize (w4.setCell ⟨kb, 1, none⟩ (.int .i64 (xf - 4194304))) = w5 at *
    refine (num_rd _ w.heap.size rb _ (q1 s) 4 HW5.out.tab.bl.size HW5.out.rd).mono ?_
    rintro e w6 ⟨rfl, hq⟩
    have hxt : 0 ≤ nmO (q1 s) 4 ∧ nmO (q1 s) 4 < 4294967296 := ⟨nmO_pos 4 HW5.out.rd.b8, nmO_lt 4 HW5.out.rd.b8⟩
    obtain ⟨xt, hvxt⟩ : ∃ x, x = nmO (q1 s) 4 := ⟨_, rfl⟩
    rw [← hvxt] at hxt ⊢
    have HVxt := hide hvxt
    clear hvxt
    replace hq : RdQ _ w.heap.size rb (q2 s) w6 := hq
    obtain ⟨rv6, hw6⟩ := HW5.out.rdq hq
    have HW6 := hide hw6
    have Hkb6 : Hid (Blk w6 kb keyT #[.slice none 0 0, .int .i64 (xf - 4194304), .int .i64 0]) := hq.2.blk Hkb5.out (fun e => by have h9 := Hkb5.out; rw [e] at h9; exact h9.apart HW5.out.rd.blk (by decide) rfl)
    clear hq hw6 HW5 Hkb5 
    have kbc0 : w6.cell? ⟨kb, 0, none⟩ = some (.slice none 0 0) := Hkb6.out.cell 0
    have kbc1 : w6.cell? ⟨kb, 1, none⟩ = some (.int .i64 (xf - 4194304)) := Hkb6.out.cell 1
    have kbc2 : w6.cell? ⟨kb, 2, none⟩ = some (.int .i64 0) := Hkb6.out.cell 2
    have kbf0 := Hkb6.out.frozen 0
    have kbf1 := Hkb6.out.frozen 1
    have kbf2 := Hkb6.out.frozen 2
    have kbl := Hkb6.out.lt
    go_wp2_with fail
    clear kbc0 kbf0 kbc1 kbf1 kbc2 kbf2 kbl
    have hf7 : Fr (fun j => j = kb) w6 (w6.setCell ⟨kb, 2, none⟩ (.int .i64 (xt - 4194304))) := ((Fr.refl _ _).put1 2 _)
    have HW7 : Hid (DcW w (w6.setCell ⟨kb, 2, none⟩ (.int .i64 (xt - 4194304))) tb cb rb lb L lcs _ (q2 s)) := HW6.out.far Hkb6.out hf7 (by decide) hkbz
    have Hkb7 : Hid (Blk (w6.setCell ⟨kb, 2, none⟩ (.int .i64 (xt - 4194304))) kb keyT #[.slice none 0 0, .int .i64 (xf - 4194304), .int .i64 (xt - 4194304)]) := hide (by have h9 := (Hkb6.out.put 2 (.int .i64 (xt - 4194304))); simpa using h9)
    clear hf7 HW6 Hkb6 
    generalize (w6.setCell ⟨kb, 2, none⟩ (.int .i64 (xt - 4194304))) = w7 at *
    generalize hyf : xf - 4194304 = yf at *
    generalize hyt : xt - 4194304 = yt at *
    have HYF := hide hyf
    have HYT := hide hyt
    clear hyf hyt
    refine (bytes_rd _ w.heap.size rb _ (q2 s) HW7.out.tab.bl.size HW7.out.rd).mono ?_
    rintro e w8 ⟨ku, rfl, hu, hq⟩
    obtain ⟨kuA, kuc, rfl, hkuc⟩ := hu.1.form
    obtain ⟨kun, hkun⟩ : ∃ n, n = (byO (q2 s)).length := ⟨_, rfl⟩
    rw [← hkun] at hkuc ⊢
    have Hku : Hid (Sl w8 w.heap.size (.slice kuA kun kuc) 1 kun (bys (byO (q2 s))) ∧ (byO (q2 s)).length = kun ∧ Bytes8 (byO (q2 s))) := ⟨by rw [hkun]; exact hu.1, hkun.symm, hu.2⟩
    clear hkun hu
    replace hq : RdQ _ w.heap.size rb (q3 s) w8 := hq
    obtain ⟨rv8, hw8⟩ := HW7.out.rdq hq
    have HW8 := hide hw8
    have Hkb8 : Hid (Blk w8 kb keyT #[.slice none 0 0, .int .i64 yf, .int .i64 yt]) := hq.2.blk Hkb7.out (fun e => by have h9 := Hkb7.out; rw [e] at h9; exact h9.apart HW7.out.rd.blk (by decide) rfl)
    clear hq hw8 HW7 Hkb7 
    have kbc0 : w8.cell? ⟨kb, 0, none⟩ = some (.slice none 0 0) := Hkb8.out.cell 0
    have kbc1 : w8.cell? ⟨kb, 1, none⟩ = some (.int .i64 yf) := Hkb8.out.cell 1
    have kbc2 : w8.cell? ⟨kb, 2, none⟩ = some (.int .i64 yt) := Hkb8.out.cell 2
    have kbf0 := Hkb8.out.frozen 0
    have kbf1 := Hkb8.out.frozen 1
    have kbf2 := Hkb8.out.frozen 2
    have kbl := Hkb8.out.lt
    go_wp2_with fail
    clear kbc0 kbf0 kbc1 kbf1 kbc2 kbf2 kbl
    have hf9 : Fr (fun j => j = kb) w8 (w8.setCell ⟨kb, 0, none⟩ (.slice kuA kun kuc)) := ((Fr.refl _ _).put1 0 _)
    have HW9 : Hid (DcW w (w8.setCell ⟨kb, 0, none⟩ (.slice kuA kun kuc)) tb cb rb lb L lcs _ (q3 s)) := HW8.out.far Hkb8.out hf9 (by decide) hkbz
    have Hkb9 : Hid (Blk (w8.setCell ⟨kb, 0, none⟩ (.slice kuA kun kuc)) kb keyT #[.slice kuA kun kuc, .int .i64 yf, .int .i64 yt]) := hide (by have h9 := (Hkb8.out.put 0 (.slice kuA kun kuc)); simpa using h9)
    have Hku9 : Hid (SlP (w8.setCell ⟨kb, 0, none⟩ (.slice kuA kun kuc)) w.heap.size (.slice kuA kun kuc) kun (byO (q2 s))) := ⟨Hku.out.1.fr hf9 HW8.out.tab.bl.size (fun k hk e => by omega), Hku.out.2⟩
    clear hf9 HW8 Hkb8 Hku
    generalize (w8.setCell ⟨kb, 0, none⟩ (.slice kuA kun kuc)) = w9 at *
    refine (bytes_rd _ w.heap.size rb _ (q3 s) HW9.out.tab.bl.size HW9.out.rd).mono ?_
    rintro e w10 ⟨cu, rfl, hu, hq⟩
    obtain ⟨cuA, cuc, rfl, hcuc⟩ := hu.1.form
    obtain ⟨cun, hcun⟩ : ∃ n, n = (byO (q3 s)).length := ⟨_, rfl⟩
    rw [← hcun] at hcuc ⊢
    have Hcu : Hid (Sl w10 w.heap.size (.slice cuA cun cuc) 1 cun (bys (byO (q3 s))) ∧ (byO (q3 s)).length = cun ∧ Bytes8 (byO (q3 s))) := ⟨by rw [hcun]; exact hu.1, hcun.symm, hu.2⟩
    clear hcun hu
    replace hq : RdQ _ w.heap.size rb (q4 s) w10 := hq
    obtain ⟨rv10, hw10⟩ := HW9.out.rdq hq
    have HW10 := hide hw10
    have Hkb10 : Hid (Blk w10 kb keyT #[.slice kuA kun kuc, .int .i64 yf, .int .i64 yt]) := hq.2.blk Hkb9.out (fun e => by have h9 := Hkb9.out; rw [e] at h9; exact h9.apart HW9.out.rd.blk (by decide) rfl)
    have Hku10 : Hid (SlP w10 w.heap.size (.slice kuA kun kuc) kun (byO (q2 s))) := ⟨Hku9.out.1.fr hq.2 HW9.out.tab.bl.size (fun k hk e => by have := HW9.out.rd.lo; omega), Hku9.out.2⟩
    clear hq hw10 HW9 Hkb9 Hku9
    go_wp2_with fail
    refine (num_rd _ w.heap.size rb _ (q4 s) 4 HW10.out.tab.bl.size HW10.out.rd).mono ?_
    rintro e w11 ⟨rfl, hq⟩
    have hxs : 0 ≤ nmO (q4 s) 4 ∧ nmO (q4 s) 4 < 4294967296 := ⟨nmO_pos 4 HW10.out.rd.b8, nmO_lt 4 HW10.out.rd.b8⟩
    obtain ⟨xs, hvxs⟩ : ∃ x, x = nmO (q4 s) 4 := ⟨_, rfl⟩
    rw [← hvxs] at hxs ⊢
    have HVxs := hide hvxs
    clear hvxs
    replace hq : RdQ _ w.heap.size rb (q5 s) w11 := hq
    obtain ⟨rv11, hw11⟩ := HW10.out.rdq hq
    have HW11 := hide hw11
    have Hkb11 : Hid (Blk w11 kb keyT #[.slice kuA kun kuc, .int .i64 yf, .int .i64 yt]) := hq.2.blk Hkb10.out (fun e => by have h9 := Hkb10.out; rw [e] at h9; exact h9.apart HW10.out.rd.blk (by decide) rfl)
    have Hku11 : Hid (SlP w11 w.heap.size (.slice kuA kun kuc) kun (byO (q2 s))) := ⟨Hku10.out.1.fr hq.2 HW10.out.tab.bl.size (fun k hk e => by have := HW10.out.rd.lo; omega), Hku10.out.2⟩
    have Hcu11 : Hid (SlP w11 w.heap.size (.slice cuA cun cuc) cun (byO (q3 s))) := ⟨Hcu.out.1.fr hq.2 HW10.out.tab.bl.size (fun k hk e => by have := HW10.out.rd.lo; omega), Hcu.out.2⟩
    clear hq hw11 HW10 Hkb10 Hku10 Hcu
    go_wp2_with fail
    have hgbz : w.heap.size ≤ w11.heap.size := HW11.out.tab.bl.size
    have HW12 : Hid (DcW w (w11.alloc (.cells #[.slice cuA cun cuc, .int .i64 xs, .int .i64 0, .int .i64 0, .int .i64 0, .bool false, .bool false] cvT)) tb cb rb lb L lcs _ (q5 s)) := HW11.out.alloc _
    have Hkb12 : Hid (Blk (w11.alloc (.cells #[.slice cuA cun cuc, .int .i64 xs, .int .i64 0, .int .i64 0, .int .i64 0, .bool false, .bool false] cvT)) kb keyT #[.slice kuA kun kuc, .int .i64 yf, .int .i64 yt]) := Hkb11.out.alloc _
    have Hku12 : Hid (SlP (w11.alloc (.cells #[.slice cuA cun cuc, .int .i64 xs, .int .i64 0, .int .i64 0, .int .i64 0, .bool false, .bool false] cvT)) w.heap.size (.slice kuA kun kuc) kun (byO (q2 s))) := ⟨Hku11.out.1.alloc HW11.out.tab.bl.size _, Hku11.out.2⟩
    have Hcu12 : Hid (SlP (w11.alloc (.cells #[.slice cuA cun cuc, .int .i64 xs, .int .i64 0, .int .i64 0, .int .i64 0, .bool false, .bool false] cvT)) w.heap.size (.slice cuA cun cuc) cun (byO (q3 s))) := ⟨Hcu11.out.1.alloc HW11.out.tab.bl.size _, Hcu11.out.2⟩
    have Hgb12 : Hid (Blk (w11.alloc (.cells #[.slice cuA cun cuc, .int .i64 xs, .int .i64 0, .int .i64 0, .int .i64 0, .bool false, .bool false] cvT)) w11.heap.size cvT #[.slice cuA cun cuc, .int .i64 xs, .int .i64 0, .int .i64 0, .int .i64 0, .bool false, .bool false]) := Blk.new _ _ _
    clear HW11 Hkb11 Hku11 Hcu11
    generalize (w11.alloc (.cells #[.slice cuA cun cuc, .int .i64 xs, .int .i64 0, .int .i64 0, .int .i64 0, .bool false, .bool false] cvT)) = w12 at *
    generalize w11.heap.size = gb at *
    refine (num_rd _ w.heap.size rb _ (q5 s) 8 HW12.out.tab.bl.size HW12.out.rd).mono ?_
    rintro e w13 ⟨rfl, hq⟩
    have hxn : 0 ≤ nmO (q5 s) 8 ∧ nmO (q5 s) 8 < 18446744073709551616 := ⟨nmO_pos 8 HW12.out.rd.b8, nmO_lt 8 HW12.out.rd.b8⟩
    obtain ⟨xn, hvxn⟩ : ∃ x, x = nmO (q5 s) 8 := ⟨_, rfl⟩
    rw [← hvxn] at hxn ⊢
    have HVxn := hide hvxn
    clear hvxn
    replace hq : RdQ _ w.heap.size rb (q6 s) w13 := hq
    obtain ⟨rv13, hw13⟩ := HW12.out.rdq hq
    have HW13 := hide hw13
    have Hkb13 : Hid (Blk w13 kb keyT #[.slice kuA kun kuc, .int .i64 yf, .int .i64 yt]) := hq.2.blk Hkb12.out (fun e => by have h9 := Hkb12.out; rw [e] at h9; exact h9.apart HW12.out.rd.blk (by decide) rfl)
    have Hgb13 : Hid (Blk w13 gb cvT #[.slice cuA cun cuc, .int .i64 xs, .int .i64 0, .int .i64 0, .int .i64 0, .bool false, .bool false]) := hq.2.blk Hgb12.out (fun e => by have h9 := Hgb12.out; rw [e] at h9; exact h9.apart HW12.out.rd.blk (by decide) rfl)
    have Hku13 : Hid (SlP w13 w.heap.size (.slice kuA kun kuc) kun (byO (q2 s))) := ⟨Hku12.out.1.fr hq.2 HW12.out.tab.bl.size (fun k hk e => by have := HW12.out.rd.lo; omega), Hku12.out.2⟩
    have Hcu13 : Hid (SlP w13 w.heap.size (.slice cuA cun cuc) cun (byO (q3 s))) := ⟨Hcu12.out.1.fr hq.2 HW12.out.tab.bl.size (fun k hk e => by have := HW12.out.rd.lo; omega), Hcu12.out.2⟩
    clear hq hw13 HW12 Hkb12 Hgb12 Hku12 Hcu12
    go_wp2_with fail
    refine (num_rd _ w.heap.size rb _ (q6 s) 8 HW13.out.tab.bl.size HW13.out.rd).mono ?_
    rintro e w14 ⟨rfl, hq⟩
    have hxh : 0 ≤ nmO (q6 s) 8 ∧ nmO (q6 s) 8 < 18446744073709551616 := ⟨nmO_pos 8 HW13.out.rd.b8, nmO_lt 8 HW13.out.rd.b8⟩
    obtain ⟨xh, hvxh⟩ : ∃ x, x = nmO (q6 s) 8 := ⟨_, rfl⟩
    rw [← hvxh] at hxh ⊢
    have HVxh := hide hvxh
    clear hvxh
    replace hq : RdQ _ w.heap.size rb (q7 s) w14 := hq
    obtain ⟨rv14, hw14⟩ := HW13.out.rdq hq
    have HW14 := hide hw14
    have Hkb14 : Hid (Blk w14 kb keyT #[.slice kuA kun kuc, .int .i64 yf, .int .i64 yt]) := hq.2.blk Hkb13.out (fun e => by have h9 := Hkb13.out; rw [e] at h9; exact h9.apart HW13.out.rd.blk (by decide) rfl)
    have Hgb14 : Hid (Blk w14 gb cvT #[.slice cuA cun cuc, .int .i64 xs, .int .i64 0, .int .i64 0, .int .i64 0, .bool false, .bool false]) := hq.2.blk Hgb13.out (fun e => by have h9 := Hgb13.out; rw [e] at h9; exact h9.apart HW13.out.rd.blk (by decide) rfl)
    have Hku14 : Hid (SlP w14 w.heap.size (.slice kuA kun kuc) kun (byO (q2 s))) := ⟨Hku13.out.1.fr hq.2 HW13.out.tab.bl.size (fun k hk e => by have := HW13.out.rd.lo; omega), Hku13.out.2⟩
    have Hcu14 : Hid (SlP w14 w.heap.size (.slice cuA cun cuc) cun (byO (q3 s))) := ⟨Hcu13.out.1.fr hq.2 HW13.out.tab.bl.size (fun k hk e => by have := HW13.out.rd.lo; omega), Hcu13.out.2⟩
    clear hq hw14 HW13 Hkb13 Hgb13 Hku13 Hcu13
    go_wp2_with fail
    refine (num_rd _ w.heap.size rb _ (q7 s) 1 HW14.out.tab.bl.size HW14.out.rd).mono ?_
    rintro e w15 ⟨rfl, hq⟩
    have hxg : 0 ≤ nmO (q7 s) 1 ∧ nmO (q7 s) 1 < 256 := ⟨nmO_pos 1 HW14.out.rd.b8, nmO_lt 1 HW14.out.rd.b8⟩
    obtain ⟨xg, hvxg⟩ : ∃ x, x = nmO (q7 s) 1 := ⟨_, rfl⟩
    rw [← hvxg] at hxg ⊢
    have HVxg := hide hvxg
    clear hvxg
    replace hq : RdQ _ w.heap.size rb (q8 s) w15 := hq
    obtain ⟨rv15, hw15⟩ := HW14.out.rdq hq
    have HW15 := hide hw15
    have Hkb15 : Hid (Blk w15 kb keyT #[.slice kuA kun kuc, .int .i64 yf, .int .i64 yt]) := hq.2.blk Hkb14.out (fun e => by have h9 := Hkb14.out; rw [e] at h9; exact h9.apart HW14.out.rd.blk (by decide) rfl)
    have Hgb15 : Hid (Blk w15 gb cvT #[.slice cuA cun cuc, .int .i64 xs, .int .i64 0, .int .i64 0, .int .i64 0, .bool false, .bool false]) := hq.2.blk Hgb14.out (fun e => by have h9 := Hgb14.out; rw [e] at h9; exact h9.apart HW14.out.rd.blk (by decide) rfl)
    have Hku15 : Hid (SlP w15 w.heap.size (.slice kuA kun kuc) kun (byO (q2 s))) := ⟨Hku14.out.1.fr hq.2 HW14.out.tab.bl.size (fun k hk e => by have := HW14.out.rd.lo; omega), Hku14.out.2⟩
    have Hcu15 : Hid (SlP w15 w.heap.size (.slice cuA cun cuc) cun (byO (q3 s))) := ⟨Hcu14.out.1.fr hq.2 HW14.out.tab.bl.size (fun k hk e => by have := HW14.out.rd.lo; omega), Hcu14.out.2⟩
    clear hq hw15 HW14 Hkb14 Hgb14 Hku14 Hcu14
    go_wp2_with fail
    refine (flag_rd _ w.heap.size rb _ (q8 s) HW15.out.tab.bl.size HW15.out.rd).mono ?_
    rintro e w16 ⟨rfl, hq⟩
    obtain ⟨xp, hvxp⟩ : ∃ x, x = fgO (q8 s) := ⟨_, rfl⟩
    rw [← hvxp]
    have HVxp := hide hvxp
    clear hvxp
    replace hq : RdQ _ w.heap.size rb (q9 s) w16 := hq
    obtain ⟨rv16, hw16⟩ := HW15.out.rdq hq
    have HW16 := hide hw16
    have Hkb16 : Hid (Blk w16 kb keyT #[.slice kuA kun kuc, .int .i64 yf, .int .i64 yt]) := hq.2.blk Hkb15.out (fun e => by have h9 := Hkb15.out; rw [e] at h9; exact h9.apart HW15.out.rd.blk (by decide) rfl)
    have Hgb16 : Hid (Blk w16 gb cvT #[.slice cuA cun cuc, .int .i64 xs, .int .i64 0, .int .i64 0, .int .i64 0, .bool false, .bool false]) := hq.2.blk Hgb15.out (fun e => by have h9 := Hgb15.out; rw [e] at h9; exact h9.apart HW15.out.rd.blk (by decide) rfl)
    have Hku16 : Hid (SlP w16 w.heap.size (.slice kuA kun kuc) kun (byO (q2 s))) := ⟨Hku15.out.1.fr hq.2 HW15.out.tab.bl.size (fun k hk e => by have := HW15.out.rd.lo; omega), Hku15.out.2⟩
    have Hcu16 : Hid (SlP w16 w.heap.size (.slice cuA cun cuc) cun (byO (q3 s))) := ⟨Hcu15.out.1.fr hq.2 HW15.out.tab.bl.size (fun k hk e => by have := HW15.out.rd.lo; omega), Hcu15.out.2⟩
    clear hq hw16 HW15 Hkb15 Hgb15 Hku15 Hcu15
    go_wp2_with fail
    refine (flag_rd _ w.heap.size rb _ (q9 s) HW16.out.tab.bl.size HW16.out.rd).mono ?_
    rintro e w17 ⟨rfl, hq⟩
    obtain ⟨xc, hvxc⟩ : ∃ x, x = fgO (q9 s) := ⟨_, rfl⟩
    rw [← hvxc]
    have HVxc := hide hvxc
    clear hvxc
    replace hq : RdQ _ w.heap.size rb (q10 s) w17 := hq
    obtain ⟨rv17, hw17⟩ := HW16.out.rdq hq
    have HW17 := hide hw17
    have Hkb17 : Hid (Blk w17 kb keyT #[.slice kuA kun kuc, .int .i64 yf, .int .i64 yt]) := hq.2.blk Hkb16.out (fun e => by have h9 := Hkb16.out; rw [e] at h9; exact h9.apart HW16.out.rd.blk (by decide) rfl)
    have Hgb17 : Hid (Blk w17 gb cvT #[.slice cuA cun cuc, .int .i64 xs, .int .i64 0, .int .i64 0, .int .i64 0, .bool false, .bool false]) := hq.2.blk Hgb16.out (fun e => by have h9 := Hgb16.out; rw [e] at h9; exact h9.apart HW16.out.rd.blk (by decide) rfl)
    have Hku17 : Hid (SlP w17 w.heap.size (.slice kuA kun kuc) kun (byO (q2 s))) := ⟨Hku16.out.1.fr hq.2 HW16.out.tab.bl.size (fun k hk e => by have := HW16.out.rd.lo; omega), Hku16.out.2⟩
    have Hcu17 : Hid (SlP w17 w.heap.size (.slice cuA cun cuc) cun (byO (q3 s))) := ⟨Hcu16.out.1.fr hq.2 HW16.out.tab.bl.size (fun k hk e => by have := HW16.out.rd.lo; omega), Hcu16.out.2⟩
    clear hq hw17 HW16 Hkb16 Hgb16 Hku16 Hcu16
    have gbc0 : w17.cell? ⟨gb, 0, none⟩ = some (.slice cuA cun cuc) := Hgb17.out.cell 0
    have gbc1 : w17.cell? ⟨gb, 1, none⟩ = some (.int .i64 xs) := Hgb17.out.cell 1
    have gbc2 : w17.cell? ⟨gb, 2, none⟩ = some (.int .i64 0) := Hgb17.out.cell 2
    have gbc3 : w17.cell? ⟨gb, 3, none⟩ = some (.int .i64 0) := Hgb17.out.cell 3
    have gbc4 : w17.cell? ⟨gb, 4, none⟩ = some (.int .i64 0) := Hgb17.out.cell 4
    have gbc5 : w17.cell? ⟨gb, 5, none⟩ = some (.bool false) := Hgb17.out.cell 5
    have gbc6 : w17.cell? ⟨gb, 6, none⟩ = some (.bool false) := Hgb17.out.cell 6
    have gbf0 := Hgb17.out.frozen 0
    have gbf1 := Hgb17.out.frozen 1
    have gbf2 := Hgb17.out.frozen 2
    have gbf3 := Hgb17.out.frozen 3
    have gbf4 := Hgb17.out.frozen 4
    have gbf5 := Hgb17.out.frozen 5
    have gbf6 := Hgb17.out.frozen 6
    have gbl := Hgb17.out.lt
    have kbc0 : w17.cell? ⟨kb, 0, none⟩ = some (.slice kuA kun kuc) := Hkb17.out.cell 0
    have kbc1 : w17.cell? ⟨kb, 1, none⟩ = some (.int .i64 yf) := Hkb17.out.cell 1
    have kbc2 : w17.cell? ⟨kb, 2, none⟩ = some (.int .i64 yt) := Hkb17.out.cell 2
    have kbf0 := Hkb17.out.frozen 0
    have kbf1 := Hkb17.out.frozen 1
    have kbf2 := Hkb17.out.frozen 2
    have kbl := Hkb17.out.lt
    go_upto_region 14 with fail
    clear gbc0 gbf0 gbc1 gbf1 gbc2 gbf2 gbc3 gbf3 gbc4 gbf4 gbc5 gbf5 gbc6 gbf6 gbl
    clear kbc0 kbf0 kbc1 kbf1 kbc2 kbf2 kbl
    have hf18 : Fr (fun j => j = gb) w17 (((((w17.setCell ⟨gb, 2, none⟩ (.int .i64 xn)).setCell ⟨gb, 3, none⟩ (.int .i64 xg)).setCell ⟨gb, 4, none⟩ (.int .i64 xh)).setCell ⟨gb, 5, none⟩ (.bool xp)).setCell ⟨gb, 6, none⟩ (.bool xc)) := ((((((Fr.refl _ _).put1 2 _).put1 3 _).put1 4 _).put1 5 _).put1 6 _)
    have HW18 : Hid (DcW w (((((w17.setCell ⟨gb, 2, none⟩ (.int .i64 xn)).setCell ⟨gb, 3, none⟩ (.int .i64 xg)).setCell ⟨gb, 4, none⟩ (.int .i64 xh)).setCell ⟨gb, 5, none⟩ (.bool xp)).setCell ⟨gb, 6, none⟩ (.bool xc)) tb cb rb lb L lcs _ (q10 s)) := HW17.out.far Hgb17.out hf18 (by decide) hgbz
    have Hkb18 : Hid (Blk (((((w17.setCell ⟨gb, 2, none⟩ (.int .i64 xn)).setCell ⟨gb, 3, none⟩ (.int .i64 xg)).setCell ⟨gb, 4, none⟩ (.int .i64 xh)).setCell ⟨gb, 5, none⟩ (.bool xp)).setCell ⟨gb, 6, none⟩ (.bool xc)) kb keyT #[.slice kuA kun kuc, .int .i64 yf, .int .i64 yt]) := hf18.blk Hkb17.out (fun e => by have h9 := Hkb17.out; rw [e] at h9; exact h9.apart Hgb17.out (by decide) rfl)
    have Hgb18 : Hid (Blk (((((w17.setCell ⟨gb, 2, none⟩ (.int .i64 xn)).setCell ⟨gb, 3, none⟩ (.int .i64 xg)).setCell ⟨gb, 4, none⟩ (.int .i64 xh)).setCell ⟨gb, 5, none⟩ (.bool xp)).setCell ⟨gb, 6, none⟩ (.bool xc)) gb cvT #[.slice cuA cun cuc, .int .i64 xs, .int .i64 xn, .int .i64 xg, .int .i64 xh, .bool xp, .bool xc]) := hide (by have h9 := (((((Hgb17.out.put 2 (.int .i64 xn)).put 3 (.int .i64 xg)).put 4 (.int .i64 xh)).put 5 (.bool xp)).put 6 (.bool xc)); simpa using h9)
    have Hku18 : Hid (SlP (((((w17.setCell ⟨gb, 2, none⟩ (.int .i64 xn)).setCell ⟨gb, 3, none⟩ (.int .i64 xg)).setCell ⟨gb, 4, none⟩ (.int .i64 xh)).setCell ⟨gb, 5, none⟩ (.bool xp)).setCell ⟨gb, 6, none⟩ (.bool xc)) w.heap.size (.slice kuA kun kuc) kun (byO (q2 s))) := ⟨Hku17.out.1.fr hf18 HW17.out.tab.bl.size (fun k hk e => by omega), Hku17.out.2⟩
    have Hcu18 : Hid (SlP (((((w17.setCell ⟨gb, 2, none⟩ (.int .i64 xn)).setCell ⟨gb, 3, none⟩ (.int .i64 xg)).setCell ⟨gb, 4, none⟩ (.int .i64 xh)).setCell ⟨gb, 5, none⟩ (.bool xp)).setCell ⟨gb, 6, none⟩ (.bool xc)) w.heap.size (.slice cuA cun cuc) cun (byO (q3 s))) := ⟨Hcu17.out.1.fr hf18 HW17.out.tab.bl.size (fun k hk e => by omega), Hcu17.out.2⟩
    clear hf18 HW17 Hkb17 Hgb17 Hku17 Hcu17
    generalize (((((w17.setCell ⟨gb, 2, none⟩ (.int .i64 xn)).setCell ⟨gb, 3, none⟩ (.int .i64 xg)).setCell ⟨gb, 4, none⟩ (.int .i64 xh)).setCell ⟨gb, 5, none⟩ (.bool xp)).setCell ⟨gb, 6, none⟩ (.bool xc)) = w18 at *
    have kbc0 : w18.cell? ⟨kb, 0, none⟩ = some (.slice kuA kun kuc) := Hkb18.out.cell 0
    have kbc1 : w18.cell? ⟨kb, 1, none⟩ = some (.int .i64 yf) := Hkb18.out.cell 1
    have kbc2 : w18.cell? ⟨kb, 2, none⟩ = some (.int .i64 yt) := Hkb18.out.cell 2
    have kbf0 := Hkb18.out.frozen 0
    have kbf1 := Hkb18.out.frozen 1
    have kbf2 := Hkb18.out.frozen 2
    have kbl := Hkb18.out.lt
    go_wp2_with fail
    refine (at_any _ (byO (q2 s)) kun w.heap.size yf yt _ Hku18.out.1 Hku18.out.2.1 HW18.out.tab.bl.size).mono ?_
    rintro e w19 ⟨rfl, hb⟩
    clear kbc0 kbf0 kbc1 kbf1 kbc2 kbf2 kbl
    have HW19 := hide (HW18.out.below hb)
    have Hkb19 := hide (Hkb18.out.below hb Hkb18.out.lt)
    have Hgb19 := hide (Hgb18.out.below hb Hgb18.out.lt)
    have Hku19 : Hid (SlP w19 w.heap.size (.slice kuA kun kuc) kun (byO (q2 s))) := ⟨Hku18.out.1.below (hb.mono HW18.out.tab.bl.size), Hku18.out.2⟩
    have Hcu19 : Hid (SlP w19 w.heap.size (.slice cuA cun cuc) cun (byO (q3 s))) := ⟨Hcu18.out.1.below (hb.mono HW18.out.tab.bl.size), Hcu18.out.2⟩
    clear hb HW18 Hkb18 Hgb18 Hku18 Hcu18
    obtain ⟨ks, hks⟩ : ∃ x, x = strOfNums (byO (q2 s)) := ⟨_, rfl⟩
    rw [← hks]
    have HKS := hide hks
    clear hks
    go_upto_region 15 with fail
    have hpbz : w.heap.size ≤ w19.heap.size := HW19.out.tab.bl.size
    have HW20 : Hid (DcW w (w19.alloc (.cells #[.string ks, .int .i64 yf, .int .i64 yt] plT)) tb cb rb lb L lcs _ (q10 s)) := HW19.out.alloc _
    have Hkb20 : Hid (Blk (w19.alloc (.cells #[.string ks, .int .i64 yf, .int .i64 yt] plT)) kb keyT #[.slice kuA kun kuc, .int .i64 yf, .int .i64 yt]) := Hkb19.out.alloc _
    have Hgb20 : Hid (Blk (w19.alloc (.cells #[.string ks, .int .i64 yf, .int .i64 yt] plT)) gb cvT #[.slice cuA cun cuc, .int .i64 xs, .int .i64 xn, .int .i64 xg, .int .i64 xh, .bool xp, .bool xc]) := Hgb19.out.alloc _
    have Hku20 : Hid (SlP (w19.alloc (.cells #[.string ks, .int .i64 yf, .int .i64 yt] plT)) w.heap.size (.slice kuA kun kuc) kun (byO (q2 s))) := ⟨Hku19.out.1.alloc HW19.out.tab.bl.size _, Hku19.out.2⟩
    have Hcu20 : Hid (SlP (w19.alloc (.cells #[.string ks, .int .i64 yf, .int .i64 yt] plT)) w.heap.size (.slice cuA cun cuc) cun (byO (q3 s))) := ⟨Hcu19.out.1.alloc HW19.out.tab.bl.size _, Hcu19.out.2⟩
    have Hpb20 : Hid (Blk (w19.alloc (.cells #[.string ks, .int .i64 yf, .int .i64 yt] plT)) w19.heap.size plT #[.string ks, .int .i64 yf, .int .i64 yt]) := Blk.new _ _ _
    clear HW19 Hkb19 Hgb19 Hku19 Hcu19
    generalize (w19.alloc (.cells #[.string ks, .int .i64 yf, .int .i64 yt] plT)) = w20 at *
    generalize w19.heap.size = pb at *
    have HDF : Hid (yf = dF s ∧ yt = dT s ∧ byO (q2 s) = dB s) := ⟨by rw [← HYF.out, HVxf.out]; rfl, by rw [← HYT.out, HVxt.out]; rfl, rfl⟩
    have HDC : Hid ((⟨byO (q3 s), xs, xn, xg, xh, xp, xc⟩ : CD) = dC s) := by show _ = _; rw [HVxs.out, HVxn.out, HVxg.out, HVxh.out, HVxp.out, HVxc.out]; rfl
    clear HVxf HVxt HVxs HVxn HVxg HVxh HVxp HVxc
    have r1 : w20.cell? ⟨rb, 1, none⟩ = some (.bool (q10 s).2) := HW20.out.rd.blk.cell 1
    have hrl := HW20.out.rd.blk.lt
    obtain ⟨bd, hbd⟩ : ∃ b, b = (q10 s).2 := ⟨_, rfl⟩
    rw [← hbd] at r1
    have HBD := hide hbd
    clear hbd
    cases bd
    · have HLC : Hid (∃ y0 y1 y2, lcs = #[y0, y1, y2]) := HLC0.out
      by_cases hk0 : k = 0
      · subst hk0
        have HO : Hid (∀ q', q = some q' → ordW q'.b (dB s) q'.f q'.t (dF s) (dT s) < 0) := fun q' hq => by rw [HP.out.none_ rfl] at hq; cases hq
        have kbc0 : w20.cell? ⟨kb, 0, none⟩ = some (.slice kuA kun kuc) := Hkb20.out.cell 0
        have kbc1 : w20.cell? ⟨kb, 1, none⟩ = some (.int .i64 yf) := Hkb20.out.cell 1
        have kbc2 : w20.cell? ⟨kb, 2, none⟩ = some (.int .i64 yt) := Hkb20.out.cell 2
        have kbf0 := Hkb20.out.frozen 0
        have kbf1 := Hkb20.out.frozen 1
        have kbf2 := Hkb20.out.frozen 2
        have kbl := Hkb20.out.lt
        have gbc0 : w20.cell? ⟨gb, 0, none⟩ = some (.slice cuA cun cuc) := Hgb20.out.cell 0
        have gbc1 : w20.cell? ⟨gb, 1, none⟩ = some (.int .i64 xs) := Hgb20.out.cell 1
        have gbc2 : w20.cell? ⟨gb, 2, none⟩ = some (.int .i64 xn) := Hgb20.out.cell 2
        have gbc3 : w20.cell? ⟨gb, 3, none⟩ = some (.int .i64 xg) := Hgb20.out.cell 3
        have gbc4 : w20.cell? ⟨gb, 4, none⟩ = some (.int .i64 xh) := Hgb20.out.cell 4
        have gbc5 : w20.cell? ⟨gb, 5, none⟩ = some (.bool xp) := Hgb20.out.cell 5
        have gbc6 : w20.cell? ⟨gb, 6, none⟩ = some (.bool xc) := Hgb20.out.cell 6
        have gbf0 := Hgb20.out.frozen 0
        have gbf1 := Hgb20.out.frozen 1
        have gbf2 := Hgb20.out.frozen 2
        have gbf3 := Hgb20.out.frozen 3
        have gbf4 := Hgb20.out.frozen 4
        have gbf5 := Hgb20.out.frozen 5
        have gbf6 := Hgb20.out.frozen 6
        have gbl := Hgb20.out.lt
        go_wp2_with fail
        refine (cput_any _ w.heap.size tb cb w.heap.size kun kuc cun cuc none none false L [] [] kuA cuA (byO (q2 s)) yf yt ⟨byO (q3 s), xs, xn, xg, xh, xp, xc⟩ HW20.out.tab.ts Hku20.out.1 Hku20.out.2.1 Hku20.out.2.2 (fun Y hY => Hcu20.out.1.fr hY HW20.out.tab.bl.size (fun j hj h9 => by have := (HW20.out.tab.ts.lows j h9).1; omega)) Hcu20.out.2.1 Hcu20.out.2.2 HW20.out.tab.bl.size HW20.out.tab.bl.size).mono ?_
        clear kbc0 kbf0 kbc1 kbf1 kbc2 kbf2 kbl
        clear gbc0 gbf0 gbc1 gbf1 gbc2 gbf2 gbc3 gbf3 gbc4 gbf4 gbc5 gbf5 gbc6 gbf6 gbl
        rintro e w21 (⟨hnr, rfl, hb⟩ | ⟨hr, rfl, p, hp1, hp2, hp3, c', hc', -, ht, hf⟩)
        · have HNO : Hid (∀ M, ¬ DecT D M) := HP.out.no hlt HS2.out (fun m M => Dec.wrong HS2.out (by rw [← HDF.out.1, ← HDF.out.2.1, ← HDC.out]; rw [HDF.out.2.2] at hnr; exact hnr))
          have HBL : Hid (Below w.heap.size w w21) := (HW20.out.below hb).tab.bl
          clear hnr hb
          go_wp2_with fail
          go_ret2
          exact .inr ⟨HNO.out, rfl, HBL.out⟩
        · have HR := hide hr
          have HWn : Hid (DcW w w21 tb cb rb lb (putM L p c') lcs _ (q10 s)) := HW20.out.put ht hf
          have Hpbn : Hid (Blk w21 pb plT #[.string ks, .int .i64 yf, .int .i64 yt]) := hf.blk Hpb20.out (HW20.out.tab.ts.nblk Hpb20.out (by decide))
          have HPS : Hid (ks = strOfNums p.b ∧ yf = p.f ∧ yt = p.t) := ⟨by rw [HKS.out, hp1], hp2.symm, hp3.symm⟩
          have HNX := hide (HP.out.next (p := p) (c := c') hlt HS2.out H8s.out HBD.out.symm (hp1.trans HDF.out.2.2) (hp2.trans HDF.out.1) (hp3.trans HDF.out.2.1) (hc'.trans HDC.out) (by rw [← HDC.out]; exact HR.out) HO.out)
          rw [HNX.out.1] at HWn
          clear ht hf hr hp1 hp2 hp3 hc' HW20 Hkb20 Hgb20 Hpb20 Hku20 Hcu20
          have pc0 : w21.cell? ⟨pb, 0, none⟩ = some (.string ks) := Hpbn.out.cell 0
          have pc1 : w21.cell? ⟨pb, 1, none⟩ = some (.int .i64 yf) := Hpbn.out.cell 1
          have pc2 : w21.cell? ⟨pb, 2, none⟩ = some (.int .i64 yt) := Hpbn.out.cell 2
          have pl := Hpbn.out.lt
          have ll := HWn.out.lst.lt
          have lf0 := HWn.out.lst.frozen 0
          have lf1 := HWn.out.lst.frozen 1
          have lf2 := HWn.out.lst.frozen 2
          obtain ⟨y0, y1, y2, hy⟩ : ∃ y0 y1 y2, lcs = #[y0, y1, y2] := HLC.out
          have lc0 : w21.cell? ⟨lb, 0, none⟩ = some y0 := by rw [hy] at HWn; exact HWn.out.lst.cell 0
          have lc1 : w21.cell? ⟨lb, 1, none⟩ = some y1 := by rw [hy] at HWn; exact HWn.out.lst.cell 1
          have lc2 : w21.cell? ⟨lb, 2, none⟩ = some y2 := by rw [hy] at HWn; exact HWn.out.lst.cell 2
          have HY := hide hy
          clear hy
          go_wp2_with fail
          go_roundw
          case rel =>
            have HN1 : Blk (((w21.setCell ⟨lb, 0, none⟩ (.string ks)).setCell ⟨lb, 1, none⟩ (.int .i64 yf)).setCell ⟨lb, 2, none⟩ (.int .i64 yt)) lb plT #[.string ks, .int .i64 yf, .int .i64 yt] := by
              have h9 := HWn.out.lst
              rw [HY.out] at h9
              have h8 := ((h9.put 0 (.string ks)).put 1 (.int .i64 yf)).put 2 (.int .i64 yt)
              simpa using h8
            have HF1 : Fr (fun j => j = lb) w21 (((w21.setCell ⟨lb, 0, none⟩ (.string ks)).setCell ⟨lb, 1, none⟩ (.int .i64 yf)).setCell ⟨lb, 2, none⟩ (.int .i64 yt)) := (((Fr.refl _ _).put1 0 _).put1 1 _).put1 2 _
            refine ⟨1, L ++ [(p, c')], some p, _, rv17, q10 s, by omega, by first | rfl | simp, ⟨_, _, _, rfl⟩, HNX.out.2, ?_⟩
            have h9 := HWn.out.last HF1 HN1
            rw [HPS.out.1, HPS.out.2.1, HPS.out.2.2] at h9
            rw [HLB.out] at h9
            first | exact h9 | (simp only [← HPS.out.1, ← HPS.out.2.1, ← HPS.out.2.2, HLB.out] at h9 ⊢; exact h9)
          case measure => simp [intOf]; omega
      · obtain ⟨q', hq', hlcs⟩ := HP.out.some_ (by omega)
        have HQ := hide hq'
        have lc0 : w20.cell? ⟨lb, 0, none⟩ = some (.string (strOfNums q'.b)) := by have h9 := HW20.out.lst.cell 0; rw [hlcs] at h9; exact h9
        have lc1 : w20.cell? ⟨lb, 1, none⟩ = some (.int .i64 q'.f) := by have h9 := HW20.out.lst.cell 1; rw [hlcs] at h9; exact h9
        have lc2 : w20.cell? ⟨lb, 2, none⟩ = some (.int .i64 q'.t) := by have h9 := HW20.out.lst.cell 2; rw [hlcs] at h9; exact h9
        have ll := HW20.out.lst.lt
        clear hq' hlcs
        have pbc0 : w20.cell? ⟨pb, 0, none⟩ = some (.string ks) := Hpb20.out.cell 0
        have pbc1 : w20.cell? ⟨pb, 1, none⟩ = some (.int .i64 yf) := Hpb20.out.cell 1
        have pbc2 : w20.cell? ⟨pb, 2, none⟩ = some (.int .i64 yt) := Hpb20.out.cell 2
        have pbf0 := Hpb20.out.frozen 0
        have pbf1 := Hpb20.out.frozen 1
        have pbf2 := Hpb20.out.frozen 2
        have pbl := Hpb20.out.lt
        have hk1 : 0 < k := by omega
        clear hk0
        have HOC := hide (fun X : World => pord_raw q'.b (byO (q2 s)) q'.f q'.t yf yt q'.ok.1 Hku20.out.2.2 X)
        rw [← HKS.out] at HOC
        obtain ⟨od, hod⟩ : ∃ x, x = ordW q'.b (byO (q2 s)) q'.f q'.t yf yt := ⟨_, rfl⟩
        rw [← hod] at HOC
        have HOD : Hid (od = ordW q'.b (dB s) q'.f q'.t (dF s) (dT s)) := by show _ = _; rw [hod, HDF.out.1, HDF.out.2.1, HDF.out.2.2]
        clear hod
        go_wp2_with fail
        refine (HOC.out _).mono ?_
        rintro e w21 ⟨rfl, hg⟩
        have hb := grow_bel hg
        clear hg HOC lc0 lc1 lc2 ll r1 hrl
        clear pbc0 pbf0 pbc1 pbf1 pbc2 pbf2 pbl
        have HW21 := hide (HW20.out.below hb)
        have Hkb21 := hide (Hkb20.out.below hb Hkb20.out.lt)
        have Hgb21 := hide (Hgb20.out.below hb Hgb20.out.lt)
        have Hpb21 := hide (Hpb20.out.below hb Hpb20.out.lt)
        have Hku21 : Hid (SlP w21 w.heap.size (.slice kuA kun kuc) kun (byO (q2 s))) := ⟨Hku20.out.1.below (hb.mono HW20.out.tab.bl.size), Hku20.out.2⟩
        have Hcu21 : Hid (SlP w21 w.heap.size (.slice cuA cun cuc) cun (byO (q3 s))) := ⟨Hcu20.out.1.below (hb.mono HW20.out.tab.bl.size), Hcu20.out.2⟩
        clear hb HW20 Hkb20 Hgb20 Hpb20 Hku20 Hcu20
        by_cases ho : od < 0
        · have HO : Hid (∀ q', q = some q' → ordW q'.b (dB s) q'.f q'.t (dF s) (dT s) < 0) := fun y hy => by
            rw [HQ.out] at hy; obtain rfl := Option.some.inj hy
            rw [← HOD.out]; exact ho
          have hge : (0 ≤ od) = False := eq_false (by omega)
          clear ho
          have kbc0 : w21.cell? ⟨kb, 0, none⟩ = some (.slice kuA kun kuc) := Hkb21.out.cell 0
          have kbc1 : w21.cell? ⟨kb, 1, none⟩ = some (.int .i64 yf) := Hkb21.out.cell 1
          have kbc2 : w21.cell? ⟨kb, 2, none⟩ = some (.int .i64 yt) := Hkb21.out.cell 2
          have kbf0 := Hkb21.out.frozen 0
          have kbf1 := Hkb21.out.frozen 1
          have kbf2 := Hkb21.out.frozen 2
          have kbl := Hkb21.out.lt
          have gbc0 : w21.cell? ⟨gb, 0, none⟩ = some (.slice cuA cun cuc) := Hgb21.out.cell 0
          have gbc1 : w21.cell? ⟨gb, 1, none⟩ = some (.int .i64 xs) := Hgb21.out.cell 1
          have gbc2 : w21.cell? ⟨gb, 2, none⟩ = some (.int .i64 xn) := Hgb21.out.cell 2
          have gbc3 : w21.cell? ⟨gb, 3, none⟩ = some (.int .i64 xg) := Hgb21.out.cell 3
          have gbc4 : w21.cell? ⟨gb, 4, none⟩ = some (.int .i64 xh) := Hgb21.out.cell 4
          have gbc5 : w21.cell? ⟨gb, 5, none⟩ = some (.bool xp) := Hgb21.out.cell 5
          have gbc6 : w21.cell? ⟨gb, 6, none⟩ = some (.bool xc) := Hgb21.out.cell 6
          have gbf0 := Hgb21.out.frozen 0
          have gbf1 := Hgb21.out.frozen 1
          have gbf2 := Hgb21.out.frozen 2
          have gbf3 := Hgb21.out.frozen 3
          have gbf4 := Hgb21.out.frozen 4
          have gbf5 := Hgb21.out.frozen 5
          have gbf6 := Hgb21.out.frozen 6
          have gbl := Hgb21.out.lt
          go_wp2_with fail
          refine (cput_any _ w.heap.size tb cb w.heap.size kun kuc cun cuc none none false L [] [] kuA cuA (byO (q2 s)) yf yt ⟨byO (q3 s), xs, xn, xg, xh, xp, xc⟩ HW21.out.tab.ts Hku21.out.1 Hku21.out.2.1 Hku21.out.2.2 (fun Y hY => Hcu21.out.1.fr hY HW21.out.tab.bl.size (fun j hj h9 => by have := (HW21.out.tab.ts.lows j h9).1; omega)) Hcu21.out.2.1 Hcu21.out.2.2 HW21.out.tab.bl.size HW21.out.tab.bl.size).mono ?_
          clear kbc0 kbf0 kbc1 kbf1 kbc2 kbf2 kbl
          clear gbc0 gbf0 gbc1 gbf1 gbc2 gbf2 gbc3 gbf3 gbc4 gbf4 gbc5 gbf5 gbc6 gbf6 gbl
          rintro e w22 (⟨hnr, rfl, hb⟩ | ⟨hr, rfl, p, hp1, hp2, hp3, c', hc', -, ht, hf⟩)
          · have HNO : Hid (∀ M, ¬ DecT D M) := HP.out.no hlt HS2.out (fun m M => Dec.wrong HS2.out (by rw [← HDF.out.1, ← HDF.out.2.1, ← HDC.out]; rw [HDF.out.2.2] at hnr; exact hnr))
            have HBL : Hid (Below w.heap.size w w22) := (HW21.out.below hb).tab.bl
            clear hnr hb
            go_wp2_with fail
            go_ret2
            exact .inr ⟨HNO.out, rfl, HBL.out⟩
          · have HR := hide hr
            have HWn : Hid (DcW w w22 tb cb rb lb (putM L p c') lcs _ (q10 s)) := HW21.out.put ht hf
            have Hpbn : Hid (Blk w22 pb plT #[.string ks, .int .i64 yf, .int .i64 yt]) := hf.blk Hpb21.out (HW21.out.tab.ts.nblk Hpb21.out (by decide))
            have HPS : Hid (ks = strOfNums p.b ∧ yf = p.f ∧ yt = p.t) := ⟨by rw [HKS.out, hp1], hp2.symm, hp3.symm⟩
            have HNX := hide (HP.out.next (p := p) (c := c') hlt HS2.out H8s.out HBD.out.symm (hp1.trans HDF.out.2.2) (hp2.trans HDF.out.1) (hp3.trans HDF.out.2.1) (hc'.trans HDC.out) (by rw [← HDC.out]; exact HR.out) HO.out)
            rw [HNX.out.1] at HWn
            clear ht hf hr hp1 hp2 hp3 hc' HW21 Hkb21 Hgb21 Hpb21 Hku21 Hcu21
            have pc0 : w22.cell? ⟨pb, 0, none⟩ = some (.string ks) := Hpbn.out.cell 0
            have pc1 : w22.cell? ⟨pb, 1, none⟩ = some (.int .i64 yf) := Hpbn.out.cell 1
            have pc2 : w22.cell? ⟨pb, 2, none⟩ = some (.int .i64 yt) := Hpbn.out.cell 2
            have pl := Hpbn.out.lt
            have ll := HWn.out.lst.lt
            have lf0 := HWn.out.lst.frozen 0
            have lf1 := HWn.out.lst.frozen 1
            have lf2 := HWn.out.lst.frozen 2
            obtain ⟨y0, y1, y2, hy⟩ : ∃ y0 y1 y2, lcs = #[y0, y1, y2] := HLC.out
            have lc0 : w22.cell? ⟨lb, 0, none⟩ = some y0 := by rw [hy] at HWn; exact HWn.out.lst.cell 0
            have lc1 : w22.cell? ⟨lb, 1, none⟩ = some y1 := by rw [hy] at HWn; exact HWn.out.lst.cell 1
            have lc2 : w22.cell? ⟨lb, 2, none⟩ = some y2 := by rw [hy] at HWn; exact HWn.out.lst.cell 2
            have HY := hide hy
            clear hy
            go_wp2_with fail
            go_roundw
            case rel =>
              have HN1 : Blk (((w22.setCell ⟨lb, 0, none⟩ (.string ks)).setCell ⟨lb, 1, none⟩ (.int .i64 yf)).setCell ⟨lb, 2, none⟩ (.int .i64 yt)) lb plT #[.string ks, .int .i64 yf, .int .i64 yt] := by
                have h9 := HWn.out.lst
                rw [HY.out] at h9
                have h8 := ((h9.put 0 (.string ks)).put 1 (.int .i64 yf)).put 2 (.int .i64 yt)
                simpa using h8
              have HF1 : Fr (fun j => j = lb) w22 (((w22.setCell ⟨lb, 0, none⟩ (.string ks)).setCell ⟨lb, 1, none⟩ (.int .i64 yf)).setCell ⟨lb, 2, none⟩ (.int .i64 yt)) := (((Fr.refl _ _).put1 0 _).put1 1 _).put1 2 _
              refine ⟨k + 1, L ++ [(p, c')], some p, _, rv17, q10 s, by omega, by first | rfl | simp, ⟨_, _, _, rfl⟩, HNX.out.2, ?_⟩
              have h9 := HWn.out.last HF1 HN1
              rw [HPS.out.1, HPS.out.2.1, HPS.out.2.2] at h9
              rw [HLB.out] at h9
              first | exact h9 | (simp only [← HPS.out.1, ← HPS.out.2.1, ← HPS.out.2.2, HLB.out] at h9 ⊢; exact h9)
            case measure => simp [intOf]; omega
        · have HNO : Hid (∀ M, ¬ DecT D M) := HP.out.no hlt HS2.out (fun m M => by rw [HQ.out]; exact Dec.order HS2.out (by rw [← HOD.out]; exact ho))
          have HBL : Hid (Below w.heap.size w w21) := HW21.out.tab.bl
          have hge : (0 ≤ od) = True := eq_true (by omega)
          clear ho
          go_wp2_with fail
          go_ret2
          exact .inr ⟨HNO.out, rfl, HBL.out⟩
    · have HNO : Hid (∀ M, ¬ DecT D M) := HP.out.no hlt HS2.out (fun m M => Dec.bad HS2.out HBD.out.symm)
      have HBL : Hid (Below w.heap.size w w20) := HW20.out.tab.bl
      go_wp2_with fail
      go_ret2
      exact .inr ⟨HNO.out, rfl, HBL.out⟩
  · obtain rfl : k = n := by omega
    obtain ⟨rA, rc, hrv, hrc⟩ := HW.out.rd.sl.form
    obtain ⟨m, hm⟩ : ∃ m, m = s.1.length := ⟨_, rfl⟩
    have r0 : wr.cell? ⟨rb, 0, none⟩ = some (.slice rA m rc) := by have h9 := HW.out.rd.blk.cell 0; rw [hrv, ← hm] at h9; exact h9
    have HM := hide hm
    obtain ⟨bd, hbd⟩ : ∃ b, b = s.2 := ⟨_, rfl⟩
    have HBD := hide hbd
    rw [← hbd] at r1
    clear hrv hm hbd
    cases bd
    · by_cases hm0 : m = 0
      · subst hm0
        have HD := hide (HP.out.done.1 ⟨HBD.out.symm, List.length_eq_zero_iff.1 HM.out.symm⟩)
        go_wp2_with fail
        go_ret2
        exact .inl ⟨tb, cb, L, HD.out, rfl, HW.out.tab⟩
      · have HNO : Hid (∀ M, ¬ DecT D M) := HP.out.done.2 (fun h9 => hm0 (by rw [HM.out, h9.2]; rfl))
        have hm1 : 0 < m := by omega
        clear hm0
        go_wp2_with fail
        go_ret2
        exact .inr ⟨HNO.out, rfl, HW.out.tab.bl⟩
    · have HNO : Hid (∀ M, ¬ DecT D M) := HP.out.done.2 (fun h9 => by rw [← HBD.out] at h9; cases h9.1)
      go_wp2_with fail
      go_ret2
      exact .inr ⟨HNO.out, rfl, HW.out.tab.bl⟩
end Go.Proofs.Ytkobaidamdffmaa
