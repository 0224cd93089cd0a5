/- The law's step: ops of kind 3, 4, 5; any op (printed by genstp3.py). / The law's holds (printed by genhld15.py). -/
import Derived.Test.YtkobaidamdffmaaQCellsPlays21
import Derived.Test.YtkobaidamdffmaaQCellsPlays24
import Derived.Test.YtkobaidamdffmaaQCellsPlays19
import Derived.Test.YtkobaidamdffmaaQCellsPlays00
import Derived.BigQuiet

namespace Go.Proofs.Ytkobaidamdffmaa
open Go.RowKit Go.Sort
set_option linter.unusedVariables false
set_option linter.unusedSimpArgs false

theorem MatT.same {L M : List (PK × CV)} {E : List RC} (h : MatT M E) (k : SameT L M) : MatT L E := by
  refine ⟨h.so, fun x hx => ?_, fun p c hc => ?_⟩
  · obtain ⟨p, hp, hd⟩ := h.fwd x hx
    exact ⟨p, hp, (k p).trans hd⟩
  · have h9 := k p
    rw [hc] at h9
    cases hm : lk M p with
    | none => rw [hm] at h9; cases h9
    | some z => exact h.bwd p z hm
theorem MatT.len {L : List (PK × CV)} {D : List RC} (h : MatT L D) (hn : (L.map (·.1)).Nodup) : L.length = D.length := by
  obtain ⟨P, hl, _, hp, _⟩ := h.keys hn
  have h9 := hp.length_eq
  rw [List.length_map] at h9
  omega
/-- the law's invariant -/
structure PlI (bg : Bool) (L W : List (PK × CV)) (F : List (PK × Int)) (D E : List RC) (n : Nat) : Prop where
  mat : MatT L D
  len : L.length ≤ n ∧ D.length ≤ n ∧ W.length ≤ n ∧ F.length ≤ n ∧ E.length ≤ n
  beg : bg = true → ∃ M, (M.map (·.1)).Nodup ∧ MatT M E ∧ BkI M L W F ∧ BkD W F
theorem PlI.mono {bg : Bool} {L W : List (PK × CV)} {F : List (PK × Int)} {D E : List RC} {n m : Nat} (h : PlI bg L W F D E n) (hm : n ≤ m) : PlI bg L W F D E m := ⟨h.mat, by have := h.len; omega, h.beg⟩
/-- behind a step of any kind -/
def StepP (w X : World) (base tb cb xb n : Nat) (e : Ending) (w' : World) : Prop :=
  e = .returned (.bool true) ∧ ∃ wm fm bg L W F v D u E, PlI bg L W F D E (n + 1) ∧ TabG w w' tb cb wm fm bg L W F ∧ RT w w' base xb v D u E bg ∧ Ks X w'
theorem kpW_len (bg : Bool) (L W : List (PK × CV)) (F : List (PK × Int)) (p : PK) : (kpW bg L W F p).length ≤ W.length + 1 := by
  unfold kpW
  split
  · cases lk L p with
    | none => exact Nat.le_succ _
    | some c => exact (put_len W p c).2
  · exact Nat.le_succ _
theorem kpF_len (bg : Bool) (L W : List (PK × CV)) (F : List (PK × Int)) (p : PK) : (kpF bg L W F p).length ≤ F.length + 1 := by
  unfold kpF
  split
  · exact (put_len F p 1).2
  · exact Nat.le_succ _
theorem PlI.put {bg : Bool} {L W L' W' : List (PK × CV)} {F F' : List (PK × Int)} {D E D' : List RC} {n : Nat} {x : RC} (h : PlI bg L W F D E n) (hu : UpdPut bg x L W F D L' W' F' D') : PlI bg L' W' F' D' E (n + 1) := by
  rcases hu with ⟨_, rfl, rfl, rfl, rfl⟩ | ⟨_, p, c, hp, hc, rfl, rfl, rfl, rfl⟩
  · exact h.mono (Nat.le_succ _)
  · refine ⟨h.mat.put hp hc, ?_, fun e => ?_⟩
    · have h1 := (put_len L p c).2
      have h2 := putL_len x false D
      have h3 := kpW_len bg L W F p
      have h4 := kpF_len bg L W F p
      have h5 := h.len
      simp at h2
      omega
    · obtain ⟨M, h1, h2, h3, h4⟩ := h.beg e
      subst e
      exact ⟨M, h1, h2, h3.put p c, h4.keep p⟩
theorem PlI.drop {bg : Bool} {L W L' W' : List (PK × CV)} {F F' : List (PK × Int)} {D E D' : List RC} {n : Nat} {x : RC} (h : PlI bg L W F D E n) (hn : (L.map (·.1)).Nodup) (hu : UpdDrop bg x L W F D L' W' F' D') : PlI bg L' W' F' D' E (n + 1) := by
  rcases hu with ⟨rfl, rfl, rfl, rfl⟩ | ⟨p, hp, rfl, rfl, rfl, rfl⟩
  · exact h.mono (Nat.le_succ _)
  · refine ⟨(h.mat.drop hn hp).1, ?_, fun e => ?_⟩
    · have h1 := (del_len L p).2
      have h2 : (dropL x D).length ≤ D.length := List.length_filter_le _ _
      have h3 := kpW_len bg L W F p
      have h4 := kpF_len bg L W F p
      have h5 := h.len
      split <;> omega
    · obtain ⟨M, h1, h2, h3, h4⟩ := h.beg e
      subst e
      cases hl : lk L p with
      | some c => exact ⟨M, h1, h2, h3.drop hn p, h4.keep p⟩
      | none =>
        rw [lk_fk hl]
        exact ⟨M, h1, h2, h3, h4⟩
set_option maxRecDepth 100000 in
set_option maxHeartbeats 8000000 in
theorem step_begin (w X : World) (base tb cb xb : Nat) (wm fm : Option Nat) (bg : Bool) (L W : List (PK × CV)) (F : List (PK × Int)) (v u : Value) (D E : List RC) (n : Nat) (x : RC) (hT : TabG w X tb cb wm fm bg L W F) (hR : RT w X base xb v D u E bg) (hx : RCQ w x) (hwb : w.heap.size ≤ xb) (hI : PlI bg L W F D E n) (hn : n ≤ 1000) :
    Calls Try.prog 23 #[.pointer (some ⟨tb, 0, none⟩), .pointer (some ⟨xb, 0, none⟩), .agg (.int .i64 3 :: x.cells).toArray] X (StepP w X base tb cb xb n) := by
  obtain ⟨xk, kb, xf, xt, xa, d⟩ := x
  obtain ⟨xA, xc, hxk, hxc⟩ := hx.ks.form
  obtain ⟨eA, ec, hxe, hec⟩ := hx.ac.form
  simp only at hxk hxc hxe hec
  obtain ⟨xn, hxn⟩ : ∃ n, n = kb.length := ⟨_, rfl⟩
  obtain ⟨en, hen⟩ : ∃ n, n = d.b.length := ⟨_, rfl⟩
  rw [← hxn] at hxk hxc
  rw [← hen] at hxe hec
  subst hxk hxe
  have HXK : Hid (Sl w w.heap.size (.slice xA xn xc) 1 xn (bys kb) ∧ kb.length = xn ∧ Bytes8 kb ∧ xn ≤ 140737488355328) := ⟨by have h9 := hx.ks; rw [← hxn] at h9; exact h9, hxn.symm, hx.k8, by rw [hxn]; exact hx.kn⟩
  have HT := hide hT
  have HR := hide hR
  have HX := hide hx
  clear hx hxn hen hT hR
  unfold RC.cells
  simp only
  have HOP : Hid (Blk (X.alloc (.cells #[.int .i64 3, .slice xA xn xc, .int .i64 xf, .int .i64 xt, .slice eA en ec, .int .i64 d.s, .int .i64 d.n, .int .i64 d.g, .int .i64 d.h, .bool d.p, .bool d.c] opT15')) X.heap.size opT15' #[.int .i64 3, .slice xA xn xc, .int .i64 xf, .int .i64 xt, .slice eA en ec, .int .i64 d.s, .int .i64 d.n, .int .i64 d.g, .int .i64 d.h, .bool d.p, .bool d.c]) := Blk.new X _ _
  have HB0 : Hid (Below X.heap.size X (X.alloc (.cells #[.int .i64 3, .slice xA xn xc, .int .i64 xf, .int .i64 xt, .slice eA en ec, .int .i64 d.s, .int .i64 d.n, .int .i64 d.g, .int .i64 d.h, .bool d.p, .bool d.c] opT15'))) := (Below.refl X.heap.size X).alloc (Nat.le_refl _) _
  go_enter Try.func23, Try.ntmps23
  go_upto_region 1 with fail
  change Code.wp _ _ _ _ (X.alloc (.cells #[.int .i64 3, .slice xA xn xc, .int .i64 xf, .int .i64 xt, .slice eA en ec, .int .i64 d.s, .int .i64 d.n, .int .i64 d.g, .int .i64 d.h, .bool d.p, .bool d.c] opT15'))
  generalize (X.alloc (.cells #[.int .i64 3, .slice xA xn xc, .int .i64 xf, .int .i64 xt, .slice eA en ec, .int .i64 d.s, .int .i64 d.n, .int .i64 d.g, .int .i64 d.h, .bool d.p, .bool d.c] opT15')) = w1 at *
  obtain ⟨ob, hob⟩ : ∃ ob, ob = X.heap.size := ⟨_, rfl⟩
  rw [← hob] at HOP ⊢
  clear hob
  have o0 : w1.cell? ⟨ob, 0, none⟩ = some (.int .i64 3) := HOP.out.cell 0
  have hol := HOP.out.lt
  have HT1 := hide (HT.out.below HB0.out)
  have HR1 := hide (HR.out.below HB0.out)
  have HK1 := hide (Ks.below HB0.out)
  have HI := hide hI
  clear hI HT HR HB0 HX HXK
  have HBE := hide (cbegin_any w1 w.heap.size tb cb wm fm bg L W F HT1.out.ts HT1.out.bl.size)
  go_wp2_with fail
  refine HBE.out.mono ?_
  clear HBE
  rintro e w2 (⟨rfl, rfl, rfl⟩ | ⟨rfl, rfl, wm2, fm2, ht2, hf2⟩)
  · have HRB := hide (rbegin_any w w2 base xb v u D E true HR1.out hwb)
    clear o0 hol HOP
    go_wp2_with fail
    refine HRB.out.mono ?_
    rintro e w3 (⟨_, rfl, hr, hf⟩ | ⟨h9, _⟩)
    · have HQ : Hid (TabG w w3 tb cb wm fm true L W F ∧ RT w w3 base xb v D u E true ∧ Ks X w3) := ⟨HT1.out.of_fr HR1.out.blk hf hwb, hr, HK1.out.trans (Ks.of_fr HR1.out.blk hf)⟩
      clear hr hf HT1 HR1 HK1 HRB
      go_wp2_with fail
      go_ret
      exact ⟨rfl, _, _, _, _, _, _, _, _, _, _, HI.out.mono (Nat.le_succ _), HQ.out⟩
    · cases h9
  · have hfb : Fr (TBk tb cb wm fm false) w1 w2 := hf2.mono (fun k _ e => tbk_tb k e)
    have HT2 : Hid (TabG w w2 tb cb wm2 fm2 true L [] []) := ⟨ht2, HT1.out.after hfb⟩
    have hkt := HT1.out.ts.kt hfb
    have HR2 := hide (HR1.out.kt hkt HT2.out.bl)
    have HK2 := hide (HK1.out.trans hkt.ks)
    have HND := hide HT1.out.ts.nodup
    clear ht2 hf2 hfb hkt HT1 HR1 HK1 o0 hol HOP
    have HRB := hide (rbegin_any w w2 base xb v u D E false HR2.out hwb)
    go_wp2_with fail
    refine HRB.out.mono ?_
    rintro e w3 (⟨h9, _⟩ | ⟨_, rfl, hr, hf⟩)
    · cases h9
    · have HQ : Hid (TabG w w3 tb cb wm2 fm2 true L [] [] ∧ RT w w3 base xb v D v D true ∧ Ks X w3) := ⟨HT2.out.of_fr HR2.out.blk hf hwb, hr, HK2.out.trans (Ks.of_fr HR2.out.blk hf)⟩
      have HJ : Hid (PlI true L [] [] D D (n + 1)) := ⟨HI.out.mat, by have := HI.out.len; simp; omega, fun _ => ⟨L, HND.out, HI.out.mat, BkI.start L, fun q hq => rfl⟩⟩
      clear hr hf HT2 HR2 HK2 HRB
      go_wp2_with fail
      go_ret
      exact ⟨rfl, _, _, _, _, _, _, _, _, _, _, HJ.out, HQ.out⟩
set_option maxRecDepth 100000 in
set_option maxHeartbeats 8000000 in
theorem step_commit (w X : World) (base tb cb xb : Nat) (wm fm : Option Nat) (bg : Bool) (L W : List (PK × CV)) (F : List (PK × Int)) (v u : Value) (D E : List RC) (n : Nat) (x : RC) (hT : TabG w X tb cb wm fm bg L W F) (hR : RT w X base xb v D u E bg) (hx : RCQ w x) (hwb : w.heap.size ≤ xb) (hI : PlI bg L W F D E n) (hn : n ≤ 1000) :
    Calls Try.prog 23 #[.pointer (some ⟨tb, 0, none⟩), .pointer (some ⟨xb, 0, none⟩), .agg (.int .i64 4 :: x.cells).toArray] X (StepP w X base tb cb xb n) := by
  obtain ⟨xk, kb, xf, xt, xa, d⟩ := x
  obtain ⟨xA, xc, hxk, hxc⟩ := hx.ks.form
  obtain ⟨eA, ec, hxe, hec⟩ := hx.ac.form
  simp only at hxk hxc hxe hec
  obtain ⟨xn, hxn⟩ : ∃ n, n = kb.length := ⟨_, rfl⟩
  obtain ⟨en, hen⟩ : ∃ n, n = d.b.length := ⟨_, rfl⟩
  rw [← hxn] at hxk hxc
  rw [← hen] at hxe hec
  subst hxk hxe
  have HXK : Hid (Sl w w.heap.size (.slice xA xn xc) 1 xn (bys kb) ∧ kb.length = xn ∧ Bytes8 kb ∧ xn ≤ 140737488355328) := ⟨by have h9 := hx.ks; rw [← hxn] at h9; exact h9, hxn.symm, hx.k8, by rw [hxn]; exact hx.kn⟩
  have HT := hide hT
  have HR := hide hR
  have HX := hide hx
  clear hx hxn hen hT hR
  unfold RC.cells
  simp only
  have HOP : Hid (Blk (X.alloc (.cells #[.int .i64 4, .slice xA xn xc, .int .i64 xf, .int .i64 xt, .slice eA en ec, .int .i64 d.s, .int .i64 d.n, .int .i64 d.g, .int .i64 d.h, .bool d.p, .bool d.c] opT15')) X.heap.size opT15' #[.int .i64 4, .slice xA xn xc, .int .i64 xf, .int .i64 xt, .slice eA en ec, .int .i64 d.s, .int .i64 d.n, .int .i64 d.g, .int .i64 d.h, .bool d.p, .bool d.c]) := Blk.new X _ _
  have HB0 : Hid (Below X.heap.size X (X.alloc (.cells #[.int .i64 4, .slice xA xn xc, .int .i64 xf, .int .i64 xt, .slice eA en ec, .int .i64 d.s, .int .i64 d.n, .int .i64 d.g, .int .i64 d.h, .bool d.p, .bool d.c] opT15'))) := (Below.refl X.heap.size X).alloc (Nat.le_refl _) _
  go_enter Try.func23, Try.ntmps23
  go_upto_region 1 with fail
  change Code.wp _ _ _ _ (X.alloc (.cells #[.int .i64 4, .slice xA xn xc, .int .i64 xf, .int .i64 xt, .slice eA en ec, .int .i64 d.s, .int .i64 d.n, .int .i64 d.g, .int .i64 d.h, .bool d.p, .bool d.c] opT15'))
  generalize (X.alloc (.cells #[.int .i64 4, .slice xA xn xc, .int .i64 xf, .int .i64 xt, .slice eA en ec, .int .i64 d.s, .int .i64 d.n, .int .i64 d.g, .int .i64 d.h, .bool d.p, .bool d.c] opT15')) = w1 at *
  obtain ⟨ob, hob⟩ : ∃ ob, ob = X.heap.size := ⟨_, rfl⟩
  rw [← hob] at HOP ⊢
  clear hob
  have o0 : w1.cell? ⟨ob, 0, none⟩ = some (.int .i64 4) := HOP.out.cell 0
  have hol := HOP.out.lt
  have HT1 := hide (HT.out.below HB0.out)
  have HR1 := hide (HR.out.below HB0.out)
  have HK1 := hide (Ks.below HB0.out)
  have HI := hide hI
  clear hI HT HR HB0 HX HXK
  have HCO := hide (ccommit_any w1 w.heap.size tb cb wm fm bg L W F HT1.out.ts (by have := HI.out.len; omega) (by have := HI.out.len; omega))
  go_wp2_with fail
  refine HCO.out.mono ?_
  clear HCO
  rintro e w2 (⟨rfl, rfl, hb2⟩ | ⟨rfl, rfl, ht2, hf2⟩)
  · have HT2 := hide (HT1.out.below hb2)
    have HR2 := hide (HR1.out.below hb2)
    have HK2 := hide (HK1.out.trans (Ks.below hb2))
    clear hb2 HT1 HR1 HK1 o0 hol HOP
    have HRC := hide (rcommit_any w w2 base xb v u D E false HR2.out hwb (by have := HI.out.len; omega) (by have := HI.out.len; omega))
    go_wp2_with fail
    refine HRC.out.mono ?_
    rintro e w3 (⟨_, rfl, hr, hf⟩ | ⟨h9, _⟩)
    · have HQ : Hid (TabG w w3 tb cb wm fm false L W F ∧ RT w w3 base xb v D u E false ∧ Ks X w3) := ⟨HT2.out.of_fr HR2.out.blk hf hwb, hr, HK2.out.trans (Ks.of_fr HR2.out.blk hf)⟩
      clear hr hf HT2 HR2 HK2 HRC
      go_wp2_with fail
      go_ret
      exact ⟨rfl, _, _, _, _, _, _, _, _, _, _, HI.out.mono (Nat.le_succ _), HQ.out⟩
    · cases h9
  · have hfb : Fr (TBk tb cb wm fm true) w1 w2 := hf2.mono (fun k _ e => tbk_tb k e)
    have HT2 : Hid (TabG w w2 tb cb wm fm false L [] []) := ⟨ht2, HT1.out.after hfb⟩
    have hkt := HT1.out.ts.kt hfb
    have HR2 := hide (HR1.out.kt hkt HT2.out.bl)
    have HK2 := hide (HK1.out.trans hkt.ks)
    have HEQ : Hid (cntR D E = cntC L W F) := by
      obtain ⟨M, h1, h2, h3, h4⟩ := HI.out.beg rfl
      obtain ⟨wb, fb, _, _, hbeg⟩ := HT1.out.ts.beg rfl
      have hW : (W.map (·.1)).Nodup := by obtain ⟨_, _, _, _, hnd, _⟩ := hbeg.wm; exact hnd
      have hF : (F.map (·.1)).Nodup := by obtain ⟨_, _, _, _, hnd, _⟩ := hbeg.fm; exact hnd
      exact (cnt_eq HT1.out.ts.nodup hW hF h1 HI.out.mat h2 h3 h4).symm
    have HRC : Hid (Calls Try.prog 45 #[.pointer (some ⟨xb, 0, none⟩)] w2 fun e w' => e = .returned (.tuple #[.int .i64 (cntC L W F), .bool true]) ∧ RT w w' base xb v D u E false ∧ Fr (fun j => j = xb) w2 w') := by
      refine (rcommit_any w w2 base xb v u D E true HR2.out hwb (by have := HI.out.len; omega) (by have := HI.out.len; omega)).mono ?_
      rintro e w' (⟨h9, _⟩ | ⟨_, h8, h9⟩)
      · cases h9
      · rw [HEQ.out] at h8
        exact ⟨h8, h9⟩
    clear ht2 hf2 hfb hkt HT1 HR1 HK1 o0 hol HOP HEQ
    generalize cntC L W F = cn at *
    go_wp2_with fail
    refine HRC.out.mono ?_
    rintro e w3 ⟨rfl, hr, hf⟩
    have HQ : Hid (TabG w w3 tb cb wm fm false L [] [] ∧ RT w w3 base xb v D u E false ∧ Ks X w3) := ⟨HT2.out.of_fr HR2.out.blk hf hwb, hr, HK2.out.trans (Ks.of_fr HR2.out.blk hf)⟩
    have HJ : Hid (PlI false L [] [] D E (n + 1)) := ⟨HI.out.mat, by have := HI.out.len; simp; omega, fun e => by cases e⟩
    clear hr hf HT2 HR2 HK2 HRC
    go_wp2_with fail
    go_ret
    exact ⟨rfl, _, _, _, _, _, _, _, _, _, _, HJ.out, HQ.out⟩
set_option maxRecDepth 100000 in
set_option maxHeartbeats 8000000 in
theorem step_back (w X : World) (base tb cb xb : Nat) (wm fm : Option Nat) (bg : Bool) (L W : List (PK × CV)) (F : List (PK × Int)) (v u : Value) (D E : List RC) (n : Nat) (x : RC) (hT : TabG w X tb cb wm fm bg L W F) (hR : RT w X base xb v D u E bg) (hx : RCQ w x) (hwb : w.heap.size ≤ xb) (hI : PlI bg L W F D E n) (hn : n ≤ 1000) :
    Calls Try.prog 23 #[.pointer (some ⟨tb, 0, none⟩), .pointer (some ⟨xb, 0, none⟩), .agg (.int .i64 5 :: x.cells).toArray] X (StepP w X base tb cb xb n) := by
  obtain ⟨xk, kb, xf, xt, xa, d⟩ := x
  obtain ⟨xA, xc, hxk, hxc⟩ := hx.ks.form
  obtain ⟨eA, ec, hxe, hec⟩ := hx.ac.form
  simp only at hxk hxc hxe hec
  obtain ⟨xn, hxn⟩ : ∃ n, n = kb.length := ⟨_, rfl⟩
  obtain ⟨en, hen⟩ : ∃ n, n = d.b.length := ⟨_, rfl⟩
  rw [← hxn] at hxk hxc
  rw [← hen] at hxe hec
  subst hxk hxe
  have HXK : Hid (Sl w w.heap.size (.slice xA xn xc) 1 xn (bys kb) ∧ kb.length = xn ∧ Bytes8 kb ∧ xn ≤ 140737488355328) := ⟨by have h9 := hx.ks; rw [← hxn] at h9; exact h9, hxn.symm, hx.k8, by rw [hxn]; exact hx.kn⟩
  have HT := hide hT
  have HR := hide hR
  have HX := hide hx
  clear hx hxn hen hT hR
  unfold RC.cells
  simp only
  have HOP : Hid (Blk (X.alloc (.cells #[.int .i64 5, .slice xA xn xc, .int .i64 xf, .int .i64 xt, .slice eA en ec, .int .i64 d.s, .int .i64 d.n, .int .i64 d.g, .int .i64 d.h, .bool d.p, .bool d.c] opT15')) X.heap.size opT15' #[.int .i64 5, .slice xA xn xc, .int .i64 xf, .int .i64 xt, .slice eA en ec, .int .i64 d.s, .int .i64 d.n, .int .i64 d.g, .int .i64 d.h, .bool d.p, .bool d.c]) := Blk.new X _ _
  have HB0 : Hid (Below X.heap.size X (X.alloc (.cells #[.int .i64 5, .slice xA xn xc, .int .i64 xf, .int .i64 xt, .slice eA en ec, .int .i64 d.s, .int .i64 d.n, .int .i64 d.g, .int .i64 d.h, .bool d.p, .bool d.c] opT15'))) := (Below.refl X.heap.size X).alloc (Nat.le_refl _) _
  go_enter Try.func23, Try.ntmps23
  go_upto_region 1 with fail
  change Code.wp _ _ _ _ (X.alloc (.cells #[.int .i64 5, .slice xA xn xc, .int .i64 xf, .int .i64 xt, .slice eA en ec, .int .i64 d.s, .int .i64 d.n, .int .i64 d.g, .int .i64 d.h, .bool d.p, .bool d.c] opT15'))
  generalize (X.alloc (.cells #[.int .i64 5, .slice xA xn xc, .int .i64 xf, .int .i64 xt, .slice eA en ec, .int .i64 d.s, .int .i64 d.n, .int .i64 d.g, .int .i64 d.h, .bool d.p, .bool d.c] opT15')) = w1 at *
  obtain ⟨ob, hob⟩ : ∃ ob, ob = X.heap.size := ⟨_, rfl⟩
  rw [← hob] at HOP ⊢
  clear hob
  have o0 : w1.cell? ⟨ob, 0, none⟩ = some (.int .i64 5) := HOP.out.cell 0
  have hol := HOP.out.lt
  have HT1 := hide (HT.out.below HB0.out)
  have HR1 := hide (HR.out.below HB0.out)
  have HK1 := hide (Ks.below HB0.out)
  have HI := hide hI
  clear hI HT HR HB0 HX HXK
  have HBA := hide (cback_any w1 w.heap.size tb cb wm fm bg L W F HT1.out.ts)
  go_wp2_with fail
  refine HBA.out.mono ?_
  clear HBA
  rintro e w2 (⟨rfl, rfl, hb2⟩ | ⟨rfl, rfl, L', hbk, ht2, hf2⟩)
  · have HT2 := hide (HT1.out.below hb2)
    have HR2 := hide (HR1.out.below hb2)
    have HK2 := hide (HK1.out.trans (Ks.below hb2))
    clear hb2 HT1 HR1 HK1 o0 hol HOP
    have HRC := hide (rback_any w w2 base xb v u D E false HR2.out hwb)
    go_wp2_with fail
    refine HRC.out.mono ?_
    rintro e w3 (⟨_, rfl, hr, hf⟩ | ⟨h9, _⟩)
    · have HQ : Hid (TabG w w3 tb cb wm fm false L W F ∧ RT w w3 base xb v D u E false ∧ Ks X w3) := ⟨HT2.out.of_fr HR2.out.blk hf hwb, hr, HK2.out.trans (Ks.of_fr HR2.out.blk hf)⟩
      clear hr hf HT2 HR2 HK2 HRC
      go_wp2_with fail
      go_ret
      exact ⟨rfl, _, _, _, _, _, _, _, _, _, _, HI.out.mono (Nat.le_succ _), HQ.out⟩
    · cases h9
  · have HT2 : Hid (TabG w w2 tb cb wm fm false L' [] []) := ⟨ht2, HT1.out.after hf2⟩
    have hkt := HT1.out.ts.kt hf2
    have HR2 := hide (HR1.out.kt hkt HT2.out.bl)
    have HK2 := hide (HK1.out.trans hkt.ks)
    have HM2 : Hid (MatT L' E) := by
      obtain ⟨M, h1, h2, h3, h4⟩ := HI.out.beg rfl
      exact h2.same (fun q => (hbk q).trans (h3 q))
    have HLL : Hid (L'.length = E.length) := HM2.out.len HT2.out.ts.nodup
    clear ht2 hf2 hbk hkt HT1 HR1 HK1 o0 hol HOP
    have HRC := hide (rback_any w w2 base xb v u D E true HR2.out hwb)
    go_wp2_with fail
    refine HRC.out.mono ?_
    rintro e w3 (⟨h9, _⟩ | ⟨_, rfl, hr, hf⟩)
    · cases h9
    · have HQ : Hid (TabG w w3 tb cb wm fm false L' [] [] ∧ RT w w3 base xb u E u E false ∧ Ks X w3) := ⟨HT2.out.of_fr HR2.out.blk hf hwb, hr, HK2.out.trans (Ks.of_fr HR2.out.blk hf)⟩
      have HJ : Hid (PlI false L' [] [] E E (n + 1)) := ⟨HM2.out, by have := HI.out.len; have := HLL.out; simp; omega, fun e => by cases e⟩
      clear hr hf HT2 HR2 HK2 HRC
      go_wp2_with fail
      go_ret
      exact ⟨rfl, _, _, _, _, _, _, _, _, _, _, HJ.out, HQ.out⟩
theorem step_any (w X : World) (base tb cb xb : Nat) (wm fm : Option Nat) (bg : Bool) (L W : List (PK × CV)) (F : List (PK × Int)) (v u : Value) (D E : List RC) (n : Nat) (o : Op15) (hT : TabG w X tb cb wm fm bg L W F) (hR : RT w X base xb v D u E bg) (hx : RCQ w o.x) (hwb : w.heap.size ≤ xb) (hI : PlI bg L W F D E n) (hn : n ≤ 1000) :
    Calls Try.prog 23 #[.pointer (some ⟨tb, 0, none⟩), .pointer (some ⟨xb, 0, none⟩), .agg o.cells.toArray] X (StepP w X base tb cb xb n) := by
  obtain ⟨k, x⟩ := o
  simp only at hx
  have hD : D.length ≤ 100000 := by have := hI.len; omega
  by_cases h1 : k = 1
  · subst h1
    refine (step_put w X base tb cb xb wm fm bg L W F v u D E bg x hT hR hx hD hwb).mono ?_
    rintro e w' ⟨he, L', W', F', v', D', hu, h9⟩
    exact ⟨he, wm, fm, bg, L', W', F', v', D', u, E, hI.put hu, h9⟩
  · by_cases h2 : k = 2
    · subst h2
      refine (step_drop w X base tb cb xb wm fm bg L W F v u D E bg x hT hR hx hD hwb hI.mat).mono ?_
      rintro e w' ⟨he, L', W', F', v', D', hu, h9⟩
      exact ⟨he, wm, fm, bg, L', W', F', v', D', u, E, hI.drop hT.ts.nodup hu, h9⟩
    · by_cases h3 : k = 3
      · subst h3
        exact step_begin w X base tb cb xb wm fm bg L W F v u D E n x hT hR hx hwb hI hn
      · by_cases h4 : k = 4
        · subst h4
          exact step_commit w X base tb cb xb wm fm bg L W F v u D E n x hT hR hx hwb hI hn
        · by_cases h5 : k = 5
          · subst h5
            exact step_back w X base tb cb xb wm fm bg L W F v u D E n x hT hR hx hwb hI hn
          · refine (step_none w X base tb cb xb wm fm bg L W F v u D E bg k x hT hR hx (by omega)).mono ?_
            rintro e w' ⟨he, L', W', F', v', D', ⟨rfl, rfl, rfl, rfl⟩, h9⟩
            exact ⟨he, wm, fm, bg, _, _, _, v', _, u, E, hI.mono (Nat.le_succ _), h9⟩
end Go.Proofs.Ytkobaidamdffmaa

namespace Go.Proofs.Ytkobaidamdffmaa
open Go.RowKit Go.Sort
set_option linter.unusedVariables false
set_option linter.unusedSimpArgs false

set_option maxRecDepth 100000 in
set_option maxHeartbeats 16000000 in
theorem holds_any (X : World) (base tb cb : Nat) (wm fm : Option Nat) (bg : Bool) (L W : List (PK × CV)) (F : List (PK × Int)) (lv : Value) (D : List RC) (h : TabS X base tb cb wm fm bg L W F) (hs : Sl X X.heap.size lv 10 D.length (rcs D)) (hq : ∀ x ∈ D, RCQ X x) (hM : MatT L D) (hL : L.length ≤ 1000000) :
    Calls Try.prog 27 #[.pointer (some ⟨tb, 0, none⟩), lv] X fun e w' => e = .returned (.bool true) ∧ Below X.heap.size X w' := by
  obtain ⟨lA, lc, rfl, hlc⟩ := hs.form
  have HT := hide h
  have HS := hide hs
  have HQ := hide hq
  have HM := hide hM
  clear h hs hq hM
  obtain ⟨n, hn⟩ : ∃ n, n = D.length := ⟨_, rfl⟩
  have HN := hide hn
  rw [← hn] at HS hlc ⊢
  clear hn
  go_enter Try.func27, Try.ntmps27
  go_wp2_with fail
  refine (ckeys_any X base tb cb wm fm bg L W F HT.out hL).mono ?_
  rintro e w1 ⟨yA, yc, O, rfl, hky⟩
  obtain ⟨hlen, hat, hho⟩ := HM.out.row HT.out.nodup hky.pm hky.so
  have HAT := hide hat
  have HHO := hide hho
  obtain ⟨m, hm⟩ : ∃ m, m = O.length := ⟨_, rfl⟩
  have hmn : m = n := by rw [hm, HN.out, hlen]
  subst hmn
  have HON := hide hm
  have HT1 := hide (HT.out.below hky.bl)
  have HL1 := hide (HS.out.below hky.bl)
  have HQ1 : Hid (∀ x ∈ D, RCQ w1 x) := fun x hx => (HQ.out x hx).below hky.bl
  have HB1 := hide hky.bl
  have HKO : Hid (Own w1 0 keyT 3 (.slice yA m yc) m (kvs O)) := by rw [hm]; exact hky.own.lower (Nat.zero_le _)
  have HKY : Hid (∀ x ∈ O, KyO w1 0 x) := fun x hx => RoB.lower (hky.ky x hx) (Nat.zero_le _)
  have hml : m ≤ 1000000 := by have h9 := hky.pm.length_eq; simp only [List.length_map] at h9; omega
  rw [← hm]
  clear hky hlen hat hho hm HS HQ HM
  go_wp2_with fail
  go_loopw [6, 7, 22] (fun l o i wr => ∃ (k : Nat) (z : Int) (b : Bool), k ≤ m ∧ i = .int .i64 k ∧ l = .int .i64 z ∧ o = .bool b ∧ Hid ((z, b) = holdL ((D.take k).map RC.d)) ∧ Hid (Below w1.heap.size w1 wr)) (fun _ _ i _ => m - (intOf i).toNat)
  case atStart => exact ⟨0, 0, false, Nat.zero_le _, rfl, rfl, rfl, rfl, Below.refl _ _⟩
  case round =>
  obtain ⟨k, z, b, hk, rfl, rfl, rfl, HZ, HB⟩ := hrel
  by_cases hlt : k < m
  · have hki : (k : Int) < (m : Int) := by omega
    have hkO : k < O.length := by rw [← HON.out]; exact hlt
    have hkD : k < D.length := by rw [← HN.out]; exact hlt
    obtain ⟨hhas, c, hlk, hcd⟩ := HAT.out k hkD hkO
    obtain ⟨x, hx⟩ : ∃ x, x = O[k] := ⟨_, rfl⟩
    obtain ⟨y, hy⟩ : ∃ y, y = D[k] := ⟨_, rfl⟩
    have HRO := hide (HKY.out x (by rw [hx]; exact List.getElem_mem hkO))
    have HYQ := hide (HQ1.out y (by rw [hy]; exact List.getElem_mem hkD))
    have HTK : Hid (D.take (k + 1) = D.take k ++ [y]) := by rw [hy]; exact List.take_succ_eq_append_getElem hkD
    have HK0 : Hid (∀ X : World, Below w1.heap.size w1 X → ∃ ad, yA = some ad ∧ (ad.add (k * 3)).block < w1.heap.size ∧ X.cell? (ad.add (k * 3)) = some x.v ∧ X.cell? ⟨(ad.add (k * 3)).block, (ad.add (k * 3)).off + 1, none⟩ = some (.int .i64 x.p.f) ∧ X.cell? ⟨(ad.add (k * 3)).block, (ad.add (k * 3)).off + 2, none⟩ = some (.int .i64 x.p.t)) := fun X hX => by
      obtain ⟨ad, h1, h2, h3⟩ := kv_at (HKO.out.sl.below hX) hlt HON.out.symm
      rw [hx]
      exact ⟨ad, h1, h2, h3⟩
    have HL0 : Hid (∀ X : World, Below w1.heap.size w1 X → ∃ bd, lA = some bd ∧ (bd.add (k * 10)).block < w1.heap.size ∧ X.cell? (bd.add (k * 10)) = some y.k ∧ X.cell? ⟨(bd.add (k * 10)).block, (bd.add (k * 10)).off + 1, none⟩ = some (.int .i64 y.f) ∧ X.cell? ⟨(bd.add (k * 10)).block, (bd.add (k * 10)).off + 2, none⟩ = some (.int .i64 y.t) ∧ X.cell? ⟨(bd.add (k * 10)).block, (bd.add (k * 10)).off + 3, none⟩ = some (y.a) ∧ X.cell? ⟨(bd.add (k * 10)).block, (bd.add (k * 10)).off + 4, none⟩ = some (.int .i64 y.d.s) ∧ X.cell? ⟨(bd.add (k * 10)).block, (bd.add (k * 10)).off + 5, none⟩ = some (.int .i64 y.d.n) ∧ X.cell? ⟨(bd.add (k * 10)).block, (bd.add (k * 10)).off + 6, none⟩ = some (.int .i64 y.d.g) ∧ X.cell? ⟨(bd.add (k * 10)).block, (bd.add (k * 10)).off + 7, none⟩ = some (.int .i64 y.d.h) ∧ X.cell? ⟨(bd.add (k * 10)).block, (bd.add (k * 10)).off + 8, none⟩ = some (.bool y.d.p) ∧ X.cell? ⟨(bd.add (k * 10)).block, (bd.add (k * 10)).off + 9, none⟩ = some (.bool y.d.c)) := fun X hX => by
      obtain ⟨bd, h1, h2, h3⟩ := rc_at (HL1.out.below (hX.mono HB1.out.size)) hlt HN.out.symm
      rw [hy]
      exact ⟨bd, h1, Nat.lt_of_lt_of_le h2 HB1.out.size, h3⟩
    rw [← hx] at hhas hlk
    rw [← hy] at hhas hcd
    clear hx hy
    obtain ⟨ad, hyA, hab, -⟩ := HK0.out w1 (Below.refl _ _)
    obtain ⟨bd, hlA, hbb, -⟩ := HL0.out w1 (Below.refl _ _)
    subst hyA hlA
    obtain ⟨xv, p⟩ := x
    obtain ⟨qA, qc, hkv, hkc⟩ := RoB.form HRO.out
    simp only at hkv hkc hlk hhas
    subst hkv
    obtain ⟨yk, kb, yf, yt, ya, yd⟩ := y
    obtain ⟨rA, rc, hyk, hykc⟩ := HYQ.out.ks.form
    obtain ⟨eA, ec, hye, hyec⟩ := HYQ.out.ac.form
    simp only at hyk hykc hye hyec hcd
    obtain ⟨rn, hyn⟩ : ∃ n, n = kb.length := ⟨_, rfl⟩
    obtain ⟨en, hen⟩ : ∃ n, n = yd.b.length := ⟨_, rfl⟩
    obtain ⟨qn, hqn⟩ : ∃ n, n = p.b.length := ⟨_, rfl⟩
    rw [← hyn] at hyk hykc
    rw [← hen] at hye hyec
    subst hyk hye
    have HHAS : Hid (p.b = kb ∧ p.f = yf ∧ p.t = yt) := hhas
    have HYS : Hid (Sl w1 w1.heap.size (.slice rA rn rc) 1 rn (bys kb) ∧ kb.length = rn ∧ Bytes8 kb) := ⟨by have h9 := HYQ.out.ks; rw [← hyn] at h9; exact h9, hyn.symm, HYQ.out.k8⟩
    have HES : Hid (Sl w1 w1.heap.size (.slice eA en ec) 1 en (bys yd.b) ∧ yd.b.length = en ∧ Bytes8 yd.b) := ⟨by have h9 := HYQ.out.ac; rw [← hen] at h9; exact h9, hen.symm, HYQ.out.a8⟩
    have HQS : Hid (Sl w1 w1.heap.size (.slice qA qn qc) 1 qn (bys p.b) ∧ p.b.length = qn) := ⟨by have h9 := RoB.sl HRO.out; simp only at h9; rw [← hqn] at h9; exact h9, hqn.symm⟩
    have HG : Hid (Calls Try.prog 14 #[.pointer (some ⟨tb, 0, none⟩), .agg #[.slice qA qn qc, .int .i64 p.f, .int .i64 p.t]] wr (GetP wr yd true)) := by
      have h9 := cget_any wr base tb cb w1.heap.size qn qc wm fm bg L W F qA p (HT1.out.below HB.out) (HQS.out.1.below HB.out) HQS.out.2 HB.out.size
      rw [hlk] at h9
      have h8 : (gv (some c)).d = yd := hcd
      rw [h8] at h9
      exact h9
    obtain ⟨pf, hpf⟩ : ∃ pf, pf = p.f := ⟨_, rfl⟩
    obtain ⟨pt, hpt⟩ : ∃ pt, pt = p.t := ⟨_, rfl⟩
    have HPFT : Hid (pf = yf ∧ pt = yt) := ⟨hpf.trans HHAS.out.2.1, hpt.trans HHAS.out.2.2⟩
    have HKC : Hid (∀ X : World, Below w1.heap.size w1 X → X.cell? (ad.add (k * 3)) = some (.slice qA qn qc) ∧ X.cell? ⟨(ad.add (k * 3)).block, (ad.add (k * 3)).off + 1, none⟩ = some (.int .i64 pf) ∧ X.cell? ⟨(ad.add (k * 3)).block, (ad.add (k * 3)).off + 2, none⟩ = some (.int .i64 pt)) := fun X hX => by
      obtain ⟨ad', h1, _, h3⟩ := HK0.out X hX
      injection h1 with h1
      subst h1
      rw [hqn, hpf, hpt]
      exact h3
    have HLC : Hid (∀ X : World, Below w1.heap.size w1 X → X.cell? (bd.add (k * 10)) = some (.slice rA rn rc) ∧ X.cell? ⟨(bd.add (k * 10)).block, (bd.add (k * 10)).off + 1, none⟩ = some (.int .i64 yf) ∧ X.cell? ⟨(bd.add (k * 10)).block, (bd.add (k * 10)).off + 2, none⟩ = some (.int .i64 yt) ∧ X.cell? ⟨(bd.add (k * 10)).block, (bd.add (k * 10)).off + 3, none⟩ = some (.slice eA en ec) ∧ X.cell? ⟨(bd.add (k * 10)).block, (bd.add (k * 10)).off + 4, none⟩ = some (.int .i64 yd.s) ∧ X.cell? ⟨(bd.add (k * 10)).block, (bd.add (k * 10)).off + 5, none⟩ = some (.int .i64 yd.n) ∧ X.cell? ⟨(bd.add (k * 10)).block, (bd.add (k * 10)).off + 6, none⟩ = some (.int .i64 yd.g) ∧ X.cell? ⟨(bd.add (k * 10)).block, (bd.add (k * 10)).off + 7, none⟩ = some (.int .i64 yd.h) ∧ X.cell? ⟨(bd.add (k * 10)).block, (bd.add (k * 10)).off + 8, none⟩ = some (.bool yd.p) ∧ X.cell? ⟨(bd.add (k * 10)).block, (bd.add (k * 10)).off + 9, none⟩ = some (.bool yd.c)) := fun X hX => by
      obtain ⟨bd', h1, _, h3⟩ := HL0.out X hX
      injection h1 with h1
      subst h1
      exact h3
    rw [← hpf, ← hpt] at HG
    rw [← hqn] at hkc
    have HP8 : Hid (Bytes8 p.b) := p.ok.1
    clear hpf hpt hqn hyn hen hhas hcd hlk HK0 HL0 HRO HYQ
    have hab1 : (ad.add (k * 3)).block < wr.heap.size := Nat.lt_of_lt_of_le hab HB.out.size
    have hbb1 : (bd.add (k * 10)).block < wr.heap.size := Nat.lt_of_lt_of_le hbb HB.out.size
    obtain ⟨a0, a1, a2⟩ := HKC.out wr HB.out
    go_wp2_with fail
    refine HG.out.mono ?_
    rintro e w8 ⟨uA, uc, rfl, ho, hb8⟩
    obtain ⟨un, hun⟩ : ∃ n, n = yd.b.length := ⟨_, rfl⟩
    rw [← hun] at ho ⊢
    have HB9 : Hid (∀ o, Below w1.heap.size w1 (w8.alloc o)) := fun o => (HB.out.trans (hb8.mono HB.out.size)).alloc (HB.out.trans (hb8.mono HB.out.size)).size o
    have HU9 : Hid (∀ o, Sl (w8.alloc o) (w8.alloc o).heap.size (.slice uA un uc) 1 un (bys yd.b) ∧ yd.b.length = un) := fun o => ⟨(ho.alloc o).sl, hun.symm⟩
    clear HG ho hb8 hun a0 a1 a2 hab1 hbb1
    go_upto_region 9 with fail
    have HBZ := hide (HB9.out (.cells #[.slice uA un uc, .int .i64 yd.s, .int .i64 yd.n, .int .i64 yd.g, .int .i64 yd.h, .bool yd.p, .bool yd.c] cvT))
    have HUZ := hide (HU9.out (.cells #[.slice uA un uc, .int .i64 yd.s, .int .i64 yd.n, .int .i64 yd.g, .int .i64 yd.h, .bool yd.p, .bool yd.c] cvT))
    have HGB : Hid (Blk (w8.alloc (.cells #[.slice uA un uc, .int .i64 yd.s, .int .i64 yd.n, .int .i64 yd.g, .int .i64 yd.h, .bool yd.p, .bool yd.c] cvT)) w8.heap.size cvT #[.slice uA un uc, .int .i64 yd.s, .int .i64 yd.n, .int .i64 yd.g, .int .i64 yd.h, .bool yd.p, .bool yd.c]) := Blk.new w8 _ _
    change Code.wp _ _ _ _ (w8.alloc (.cells #[.slice uA un uc, .int .i64 yd.s, .int .i64 yd.n, .int .i64 yd.g, .int .i64 yd.h, .bool yd.p, .bool yd.c] cvT))
    clear HB9 HU9
    generalize (w8.alloc (.cells #[.slice uA un uc, .int .i64 yd.s, .int .i64 yd.n, .int .i64 yd.g, .int .i64 yd.h, .bool yd.p, .bool yd.c] cvT)) = w9 at *
    generalize w8.heap.size = gb at *
    go_cut [49] from 34 to 49 (fun q wx => q = .bool false ∧ Hid (Below w9.heap.size w9 wx))
    case first =>
      have HOF : Hid (∀ Y : World, Calls Try.prog 17 #[.agg #[.slice qA qn qc, .int .i64 pf, .int .i64 pt], .agg #[.slice uA un uc, .int .i64 yd.s, .int .i64 yd.n, .int .i64 yd.g, .int .i64 yd.h, .bool yd.p, .bool yd.c]] Y fun e w' => e = .returned (.agg #[.slice qA qn qc, .int .i64 pf, .int .i64 pt, .slice uA un uc, .int .i64 yd.s, .int .i64 yd.n, .int .i64 yd.g, .int .i64 yd.h, .bool yd.p, .bool yd.c]) ∧ Below Y.heap.size Y w') := fun Y => lof_any qA uA qn qc un uc pf pt yd.s yd.n yd.g yd.h yd.p yd.c Y
      have HSM : Hid (∀ p' : Aft w9, Calls Try.prog 18 #[.agg #[.slice qA qn qc, .int .i64 pf, .int .i64 pt, .slice uA un uc, .int .i64 yd.s, .int .i64 yd.n, .int .i64 yd.g, .int .i64 yd.h, .bool yd.p, .bool yd.c], .agg #[.slice rA rn rc, .int .i64 yf, .int .i64 yt, .slice eA en ec, .int .i64 yd.s, .int .i64 yd.n, .int .i64 yd.g, .int .i64 yd.h, .bool yd.p, .bool yd.c]] p'.w' fun e w' => e = .returned (.bool true) ∧ Below p'.w'.heap.size p'.w' w') := fun p' => by
        have hb9 : Below w1.heap.size w1 p'.w' := HBZ.out.trans (p'.h.mono HBZ.out.size)
        have h9 := lsame_any qA rA uA eA qn rn qc rc un en uc ec p.b kb yd.b yd.b pf pt yf yt yd.s yd.n yd.g yd.h yd.s yd.n yd.g yd.h yd.p yd.c yd.p yd.c p'.w'.heap.size p'.w' ((HQS.out.1.below hb9).mono hb9.size) ((HYS.out.1.below hb9).mono hb9.size) ((HUZ.out.1.below p'.h).mono p'.h.size) ((HES.out.1.below hb9).mono hb9.size) HQS.out.2 HYS.out.2.1 HUZ.out.2 HES.out.2.1 HP8.out HYS.out.2.2 HES.out.2.2 HES.out.2.2 (Nat.le_refl _)
        have h7 : ordC ⟨pf, pt⟩ ⟨yf, yt⟩ p.b kb = 0 ∧ bytesR yd.b yd.b = 0 ∧ yd.s = yd.s ∧ (yd.n = yd.n ∧ yd.g = yd.g ∧ yd.h = yd.h ∧ yd.p = yd.p ∧ yd.c = yd.c) := by
          refine ⟨(ordC_zero _ _ _ _).2 ⟨?_, HHAS.out.1⟩, (bytesR_zero _ _).2 rfl, rfl, rfl, rfl, rfl, rfl, rfl⟩
          rw [HPFT.out.1, HPFT.out.2]
        rw [decide_eq_true h7] at h9
        exact h9
      obtain ⟨i0, i1, i2⟩ := HKC.out w9 HBZ.out
      obtain ⟨j0, j1, j2, j3, j4, j5, j6, j7, j8, j9⟩ := HLC.out w9 HBZ.out
      have hab9 : (ad.add (k * 3)).block < w9.heap.size := Nat.lt_of_lt_of_le hab HBZ.out.size
      have hbb9 : (bd.add (k * 10)).block < w9.heap.size := Nat.lt_of_lt_of_le hbb HBZ.out.size
      have a0 := Aft.cell i0 hab9
      have a1 := Aft.cell i1 hab9
      have a2 := Aft.cell i2 hab9
      have b0 := Aft.cell j0 hbb9
      have b1 := Aft.cell j1 hbb9
      have b2 := Aft.cell j2 hbb9
      have b3 := Aft.cell j3 hbb9
      have b4 := Aft.cell j4 hbb9
      have b5 := Aft.cell j5 hbb9
      have b6 := Aft.cell j6 hbb9
      have b7 := Aft.cell j7 hbb9
      have b8 := Aft.cell j8 hbb9
      have b9 := Aft.cell j9 hbb9
      have g0 := Aft.cell (HGB.out.cell 0) HGB.out.lt
      have g1 := Aft.cell (HGB.out.cell 1) HGB.out.lt
      have g2 := Aft.cell (HGB.out.cell 2) HGB.out.lt
      have g3 := Aft.cell (HGB.out.cell 3) HGB.out.lt
      have g4 := Aft.cell (HGB.out.cell 4) HGB.out.lt
      have g5 := Aft.cell (HGB.out.cell 5) HGB.out.lt
      have g6 := Aft.cell (HGB.out.cell 6) HGB.out.lt
      simp at g0 g1 g2 g3 g4 g5 g6
      clear i0 i1 i2 j0 j1 j2 j3 j4 j5 j6 j7 j8 j9
      refine wp_region_aft (by kernel_rfl) (by kernel_rfl) ?_
      repeat (go_big_quiet_step (first
        | (go_at_call 17; with_reducible exact calls_aft (HOF.out _))
        | (go_at_call 18; with_reducible exact calls_aft (HSM.out _))))
      refine wpQuiet_nil ?_
      intro w10 hb10
      clear a0 a1 a2 b0 b1 b2 b3 b4 b5 b6 b7 b8 b9 g0 g1 g2 g3 g4 g5 g6
      go_wp2_with fail
      go_meet
      case rel => exact ⟨rfl, hb10⟩
    case rest =>
    obtain ⟨rfl, HBW⟩ := hcut
    have HBC := hide (HBZ.out.trans (HBW.out.mono HBZ.out.size))
    clear HBZ HUZ HGB HBW HHAS HYS HES HQS HP8 HPFT HKC HB
    obtain ⟨b0, b1, b2, b3, b4, b5, b6, b7, b8, b9⟩ := HLC.out wc HBC.out
    have hbb1 : (bd.add (k * 10)).block < wc.heap.size := Nat.lt_of_lt_of_le hbb HBC.out.size
    clear b0 b1 b2 b3 b5 b6 b7 b8
    have HZN : Hid (holdL ((D.take (k + 1)).map RC.d) = if yd.c = false ∧ (b = false ∨ yd.s < z) then (yd.s, true) else (z, b)) := by
      rw [Hid, HTK.out, List.map_append, List.map_singleton, holdL_snoc, ← HZ.out]
      rfl
    clear HZ HTK HLC
    obtain ⟨yc2, hyc2⟩ : ∃ q, q = yd.c := ⟨_, rfl⟩
    obtain ⟨ys2, hys2⟩ : ∃ q, q = yd.s := ⟨_, rfl⟩
    rw [← hyc2] at HZN b9
    rw [← hys2] at HZN b4
    clear hyc2 hys2
    cases yc2
    · cases b
      · have HZ2 : Hid ((ys2, true) = holdL ((D.take (k + 1)).map RC.d)) := by rw [Hid, HZN.out]; simp
        go_wp2_with fail
        go_roundw
        case rel => exact ⟨k + 1, ys2, true, by omega, by simp, rfl, rfl, HZ2, HBC.out⟩
        case measure => simp [intOf]; omega
      · by_cases hcm : ys2 < z
        · have HZ2 : Hid ((ys2, true) = holdL ((D.take (k + 1)).map RC.d)) := by rw [Hid, HZN.out]; simp [hcm]
          go_wp2_with fail
          go_roundw
          case rel => exact ⟨k + 1, ys2, true, by omega, by simp, rfl, rfl, HZ2, HBC.out⟩
          case measure => simp [intOf]; omega
        · have HZ2 : Hid ((z, true) = holdL ((D.take (k + 1)).map RC.d)) := by rw [Hid, HZN.out]; simp [hcm]
          go_wp2_with fail
          go_roundw
          case rel => exact ⟨k + 1, z, true, by omega, by simp, rfl, rfl, HZ2, HBC.out⟩
          case measure => simp [intOf]; omega
    · have HZ2 : Hid ((z, b) = holdL ((D.take (k + 1)).map RC.d)) := by rw [Hid, HZN.out]; simp
      go_wp2_with fail
      go_roundw
      case rel => exact ⟨k + 1, z, b, by omega, by simp, rfl, rfl, HZ2, HBC.out⟩
      case measure => simp [intOf]; omega
  · have HH : Hid (holdL (cds L) = (z, b)) := by
      rw [Hid, HHO.out, HZ.out, List.take_of_length_le (by rw [← HN.out]; omega)]
    have HTE := hide (HT1.out.below HB.out)
    have HBE := hide (HB1.out.trans (HB.out.mono HB1.out.size))
    have HOD : Hid (Calls Try.prog 53 #[.pointer (some ⟨tb, 0, none⟩)] wr fun e w' => e = .returned (.tuple #[.int .i64 z, .bool b]) ∧ Below wr.heap.size wr w') := by
      have h9 := chold_any wr base tb cb wm fm bg L W F HTE.out
      rw [HH.out] at h9
      exact h9
    clear HZ HHO HAT HN HON HT1 HL1 HQ1 HKO HKY HH HTE
    go_wp2_with fail
    refine HOD.out.mono ?_
    rintro e w9 ⟨rfl, hb9⟩
    have HB9 := hide (HBE.out.trans (hb9.mono HBE.out.size))
    clear hb9 HOD HBE HB HB1
    cases b
    all_goals
      go_wp2_with fail
      go_ret
      exact ⟨by first | rfl | simp, HB9.out⟩
end Go.Proofs.Ytkobaidamdffmaa
