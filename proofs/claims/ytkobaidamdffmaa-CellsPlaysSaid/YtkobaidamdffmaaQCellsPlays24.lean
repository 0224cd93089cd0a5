/- The law's step: an op of kind 2, or of no kind (printed by genstp2.py). / Ops in memory; step of a kind below 3; Back as a law calls it. -/
import Derived.Test.YtkobaidamdffmaaQCellsPlays23
import Derived.Test.YtkobaidamdffmaaQCellsPlays22
import Derived.Test.YtkobaidamdffmaaQCellsPlays19

namespace Go.Proofs.Ytkobaidamdffmaa
open Go.RowKit Go.Sort
set_option linter.unusedVariables false
set_option linter.unusedSimpArgs false

/-- what a Drop by step changes -/
def UpdDrop (bg : Bool) (x : RC) (L W : List (PK × CV)) (F : List (PK × Int)) (D : List RC) (L' W' : List (PK × CV)) (F' : List (PK × Int)) (D' : List RC) : Prop :=
  (L' = L ∧ W' = W ∧ F' = F ∧ D' = D) ∨ (∃ p, x.has p ∧ L' = delM L p ∧ W' = (if (lk L p).isSome then kpW bg L W F p else W) ∧ F' = (if (lk L p).isSome then kpF bg L W F p else F) ∧ D' = dropL x D)
set_option maxRecDepth 100000 in
set_option maxHeartbeats 8000000 in
theorem step_none (w X : World) (base tb cb xb : Nat) (wm fm : Option Nat) (bg : Bool) (L W : List (PK × CV)) (F : List (PK × Int)) (v u : Value) (D E : List RC) (b : Bool) (k : Int) (x : RC) (hT : TabG w X tb cb wm fm bg L W F) (hR : RT w X base xb v D u E b) (hx : RCQ w x) (hk : ¬ (1 ≤ k ∧ k ≤ 5)) :
    Calls Try.prog 23 #[.pointer (some ⟨tb, 0, none⟩), .pointer (some ⟨xb, 0, none⟩), .agg (.int .i64 k :: x.cells).toArray] X (StepQ w X base tb cb xb wm fm bg u E b (fun L' W' F' D' => L' = L ∧ W' = W ∧ F' = F ∧ D' = D)) := by
  obtain ⟨xk, kb, xf, xt, xa, d⟩ := x
  obtain ⟨xA, xc, hxk, hxc⟩ := hx.ks.form
  obtain ⟨eA, ec, hxe, hec⟩ := hx.ac.form
  simp only at hxk hxc hxe hec
  obtain ⟨xn, hxn⟩ : ∃ n, n = kb.length := ⟨_, rfl⟩
  obtain ⟨en, hen⟩ : ∃ n, n = d.b.length := ⟨_, rfl⟩
  rw [← hxn] at hxk hxc
  rw [← hen] at hxe hec
  subst hxk hxe
  have HXK : Hid (Sl w w.heap.size (.slice xA xn xc) 1 xn (bys kb) ∧ kb.length = xn ∧ Bytes8 kb ∧ xn ≤ 140737488355328) := ⟨by have h9 := hx.ks; rw [← hxn] at h9; exact h9, hxn.symm, hx.k8, by rw [hxn]; exact hx.kn⟩
  have HT := hide hT
  have HR := hide hR
  have HX := hide hx
  clear hx hxn hen hT hR
  unfold RC.cells
  simp only
  have HOP : Hid (Blk (X.alloc (.cells #[.int .i64 k, .slice xA xn xc, .int .i64 xf, .int .i64 xt, .slice eA en ec, .int .i64 d.s, .int .i64 d.n, .int .i64 d.g, .int .i64 d.h, .bool d.p, .bool d.c] opT15')) X.heap.size opT15' #[.int .i64 k, .slice xA xn xc, .int .i64 xf, .int .i64 xt, .slice eA en ec, .int .i64 d.s, .int .i64 d.n, .int .i64 d.g, .int .i64 d.h, .bool d.p, .bool d.c]) := Blk.new X _ _
  have HB0 : Hid (Below X.heap.size X (X.alloc (.cells #[.int .i64 k, .slice xA xn xc, .int .i64 xf, .int .i64 xt, .slice eA en ec, .int .i64 d.s, .int .i64 d.n, .int .i64 d.g, .int .i64 d.h, .bool d.p, .bool d.c] opT15'))) := (Below.refl X.heap.size X).alloc (Nat.le_refl _) _
  go_enter Try.func23, Try.ntmps23
  go_upto_region 1 with fail
  change Code.wp _ _ _ _ (X.alloc (.cells #[.int .i64 k, .slice xA xn xc, .int .i64 xf, .int .i64 xt, .slice eA en ec, .int .i64 d.s, .int .i64 d.n, .int .i64 d.g, .int .i64 d.h, .bool d.p, .bool d.c] opT15'))
  generalize (X.alloc (.cells #[.int .i64 k, .slice xA xn xc, .int .i64 xf, .int .i64 xt, .slice eA en ec, .int .i64 d.s, .int .i64 d.n, .int .i64 d.g, .int .i64 d.h, .bool d.p, .bool d.c] opT15')) = w1 at *
  obtain ⟨ob, hob⟩ : ∃ ob, ob = X.heap.size := ⟨_, rfl⟩
  rw [← hob] at HOP ⊢
  clear hob
  have o0 : w1.cell? ⟨ob, 0, none⟩ = some (.int .i64 k) := HOP.out.cell 0
  have hol := HOP.out.lt
  have h1 : ¬ k = 1 := by omega
  have h2 : ¬ k = 2 := by omega
  have h3 : ¬ k = 3 := by omega
  have h4 : ¬ k = 4 := by omega
  have h5 : ¬ k = 5 := by omega
  clear hk
  go_wp2_with fail
  go_ret
  exact ⟨rfl, L, W, F, v, D, ⟨rfl, rfl, rfl, rfl⟩, HT.out.below HB0.out, HR.out.below HB0.out, Ks.below HB0.out⟩
set_option maxRecDepth 100000 in
set_option maxHeartbeats 8000000 in
theorem step_drop (w X : World) (base tb cb xb : Nat) (wm fm : Option Nat) (bg : Bool) (L W : List (PK × CV)) (F : List (PK × Int)) (v u : Value) (D E : List RC) (b : Bool) (x : RC) (hT : TabG w X tb cb wm fm bg L W F) (hR : RT w X base xb v D u E b) (hx : RCQ w x) (hD : D.length ≤ 100000) (hwb : w.heap.size ≤ xb) (hM : MatT L D) :
    Calls Try.prog 23 #[.pointer (some ⟨tb, 0, none⟩), .pointer (some ⟨xb, 0, none⟩), .agg (.int .i64 2 :: x.cells).toArray] X (StepQ w X base tb cb xb wm fm bg u E b (UpdDrop bg x L W F D)) := by
  obtain ⟨xk, kb, xf, xt, xa, d⟩ := x
  obtain ⟨xA, xc, hxk, hxc⟩ := hx.ks.form
  obtain ⟨eA, ec, hxe, hec⟩ := hx.ac.form
  simp only at hxk hxc hxe hec
  obtain ⟨xn, hxn⟩ : ∃ n, n = kb.length := ⟨_, rfl⟩
  obtain ⟨en, hen⟩ : ∃ n, n = d.b.length := ⟨_, rfl⟩
  rw [← hxn] at hxk hxc
  rw [← hen] at hxe hec
  subst hxk hxe
  have HXK : Hid (Sl w w.heap.size (.slice xA xn xc) 1 xn (bys kb) ∧ kb.length = xn ∧ Bytes8 kb ∧ xn ≤ 140737488355328) := ⟨by have h9 := hx.ks; rw [← hxn] at h9; exact h9, hxn.symm, hx.k8, by rw [hxn]; exact hx.kn⟩
  have HT := hide hT
  have HR := hide hR
  have HX := hide hx
  clear hx hxn hen hT hR
  unfold RC.cells
  simp only
  have HOP : Hid (Blk (X.alloc (.cells #[.int .i64 2, .slice xA xn xc, .int .i64 xf, .int .i64 xt, .slice eA en ec, .int .i64 d.s, .int .i64 d.n, .int .i64 d.g, .int .i64 d.h, .bool d.p, .bool d.c] opT15')) X.heap.size opT15' #[.int .i64 2, .slice xA xn xc, .int .i64 xf, .int .i64 xt, .slice eA en ec, .int .i64 d.s, .int .i64 d.n, .int .i64 d.g, .int .i64 d.h, .bool d.p, .bool d.c]) := Blk.new X _ _
  have HB0 : Hid (Below X.heap.size X (X.alloc (.cells #[.int .i64 2, .slice xA xn xc, .int .i64 xf, .int .i64 xt, .slice eA en ec, .int .i64 d.s, .int .i64 d.n, .int .i64 d.g, .int .i64 d.h, .bool d.p, .bool d.c] opT15'))) := (Below.refl X.heap.size X).alloc (Nat.le_refl _) _
  go_enter Try.func23, Try.ntmps23
  go_upto_region 1 with fail
  change Code.wp _ _ _ _ (X.alloc (.cells #[.int .i64 2, .slice xA xn xc, .int .i64 xf, .int .i64 xt, .slice eA en ec, .int .i64 d.s, .int .i64 d.n, .int .i64 d.g, .int .i64 d.h, .bool d.p, .bool d.c] opT15'))
  generalize (X.alloc (.cells #[.int .i64 2, .slice xA xn xc, .int .i64 xf, .int .i64 xt, .slice eA en ec, .int .i64 d.s, .int .i64 d.n, .int .i64 d.g, .int .i64 d.h, .bool d.p, .bool d.c] opT15')) = w1 at *
  obtain ⟨ob, hob⟩ : ∃ ob, ob = X.heap.size := ⟨_, rfl⟩
  rw [← hob] at HOP ⊢
  clear hob
  have o0 : w1.cell? ⟨ob, 0, none⟩ = some (.int .i64 2) := HOP.out.cell 0
  have o1 : w1.cell? ⟨ob, 1, none⟩ = some (.slice xA xn xc) := HOP.out.cell 1
  have o2 : w1.cell? ⟨ob, 2, none⟩ = some (.int .i64 xf) := HOP.out.cell 2
  have o3 : w1.cell? ⟨ob, 3, none⟩ = some (.int .i64 xt) := HOP.out.cell 3
  have o4 : w1.cell? ⟨ob, 4, none⟩ = some (.slice eA en ec) := HOP.out.cell 4
  have o5 : w1.cell? ⟨ob, 5, none⟩ = some (.int .i64 d.s) := HOP.out.cell 5
  have o6 : w1.cell? ⟨ob, 6, none⟩ = some (.int .i64 d.n) := HOP.out.cell 6
  have o7 : w1.cell? ⟨ob, 7, none⟩ = some (.int .i64 d.g) := HOP.out.cell 7
  have o8 : w1.cell? ⟨ob, 8, none⟩ = some (.int .i64 d.h) := HOP.out.cell 8
  have o9 : w1.cell? ⟨ob, 9, none⟩ = some (.bool d.p) := HOP.out.cell 9
  have o10 : w1.cell? ⟨ob, 10, none⟩ = some (.bool d.c) := HOP.out.cell 10
  have hol := HOP.out.lt
  have HM := hide hM
  clear hM
  have HBQ := hide (HT.out.bl.trans (HB0.out.mono HT.out.bl.size))
  go_wp2_with fail
  refine (lkey_q xA xn xc xf xt (.slice eA en ec) d.s d.n d.g d.h d.p d.c kb w.heap.size w1 w1 (HXK.out.1.below HBQ.out) HXK.out.2.1 HXK.out.2.2.2 HBQ.out.size (Below.refl _ _)).mono ?_
  rintro e w2 ⟨kA, kc, rfl, hb2, hok, _⟩
  have HB2 := hide (HB0.out.trans (hb2.mono HB0.out.size))
  have HO2 := hide (HOP.out.below hb2 HOP.out.lt)
  have HDR := hide (cdrop_any w2 w.heap.size tb cb w2.heap.size xn kc wm fm bg L W F kA kb xf xt (HT.out.below HB2.out).ts hok.sl HXK.out.2.1 HXK.out.2.2.1 (Nat.le_refl _))
  clear o0 o1 o2 o3 o4 o5 o6 o7 o8 o9 o10 hol hb2 hok HOP HB0 HBQ
  go_wp2_with fail
  refine HDR.out.mono ?_
  clear HDR
  rintro e w3 (⟨hn, rfl, hb3⟩ | ⟨p, hp1, hp2, hp3, rfl, ht3, hf3⟩)
  · have HB3 := hide (HB2.out.trans (hb3.mono HB2.out.size))
    have HO3 := hide (HO2.out.below hb3 HO2.out.lt)
    have hn2 : ¬ keyR xn xf xt := by rw [← HXK.out.2.1]; exact hn
    clear hb3 hn HB2 HO2
    have o1 : w3.cell? ⟨ob, 1, none⟩ = some (.slice xA xn xc) := HO3.out.cell 1
    have o2 : w3.cell? ⟨ob, 2, none⟩ = some (.int .i64 xf) := HO3.out.cell 2
    have o3 : w3.cell? ⟨ob, 3, none⟩ = some (.int .i64 xt) := HO3.out.cell 3
    have o4 : w3.cell? ⟨ob, 4, none⟩ = some (.slice eA en ec) := HO3.out.cell 4
    have o5 : w3.cell? ⟨ob, 5, none⟩ = some (.int .i64 d.s) := HO3.out.cell 5
    have o6 : w3.cell? ⟨ob, 6, none⟩ = some (.int .i64 d.n) := HO3.out.cell 6
    have o7 : w3.cell? ⟨ob, 7, none⟩ = some (.int .i64 d.g) := HO3.out.cell 7
    have o8 : w3.cell? ⟨ob, 8, none⟩ = some (.int .i64 d.h) := HO3.out.cell 8
    have o9 : w3.cell? ⟨ob, 9, none⟩ = some (.bool d.p) := HO3.out.cell 9
    have o10 : w3.cell? ⟨ob, 10, none⟩ = some (.bool d.c) := HO3.out.cell 10
    have hol := HO3.out.lt
    have HKR := hide (keyright_any xA eA xn xc en ec xf xt d w3)
    rw [decide_eq_false hn2] at HKR
    clear hn2
    go_wp2_with fail
    refine HKR.out.mono ?_
    rintro e w4 ⟨rfl, hb4⟩
    have HB4 := hide (HB3.out.trans (hb4.mono HB3.out.size))
    clear hb4 o1 o2 o3 o4 o5 o6 o7 o8 o9 o10 hol HKR HB3 HO3
    go_wp2_with fail
    go_ret
    exact ⟨rfl, L, W, F, v, D, .inl ⟨rfl, rfl, rfl, rfl⟩, HT.out.below HB4.out, HR.out.below HB4.out, Ks.below HB4.out⟩
  · have hY := HT.out.below HB2.out
    have HT3 : Hid (TabG w w3 tb cb wm fm bg (delM L p) (if (lk L p).isSome then kpW bg L W F p else W) (if (lk L p).isSome then kpF bg L W F p else F)) := ⟨ht3, hY.after hf3⟩
    have hkt := hY.ts.kt hf3
    have HK3 : Hid (Kt X w3) := (Kt.below HB2.out).trans hkt
    have HO3 := hide (hkt.blk HO2.out (by decide))
    have HR3 := hide (HR.out.kt HK3.out HT3.out.bl)
    have hkr : keyR xn xf xt := ⟨by rw [← HXK.out.2.1, ← hp1]; exact p.ok.2.1, by have h9 := p.ok.2.2; rw [hp2, hp3] at h9; exact h9⟩
    have HHP : Hid ((⟨.slice xA xn xc, kb, xf, xt, .slice eA en ec, d⟩ : RC).has p) := ⟨hp1, hp2, hp3⟩
    have HDL : Hid (decide ((dropL (⟨.slice xA xn xc, kb, xf, xt, .slice eA en ec, d⟩ : RC) D).length < D.length) = (lk L p).isSome) := (HM.out.drop HT.out.ts.nodup HHP.out).2
    obtain ⟨is_, his⟩ : ∃ i, i = (lk L p).isSome := ⟨_, rfl⟩
    have HIS := hide his
    rw [← his] at HDL HT3 ⊢
    clear his ht3 hf3 hY hkt HB2 HO2 hp1 hp2 hp3
    have o1 : w3.cell? ⟨ob, 1, none⟩ = some (.slice xA xn xc) := HO3.out.cell 1
    have o2 : w3.cell? ⟨ob, 2, none⟩ = some (.int .i64 xf) := HO3.out.cell 2
    have o3 : w3.cell? ⟨ob, 3, none⟩ = some (.int .i64 xt) := HO3.out.cell 3
    have o4 : w3.cell? ⟨ob, 4, none⟩ = some (.slice eA en ec) := HO3.out.cell 4
    have o5 : w3.cell? ⟨ob, 5, none⟩ = some (.int .i64 d.s) := HO3.out.cell 5
    have o6 : w3.cell? ⟨ob, 6, none⟩ = some (.int .i64 d.n) := HO3.out.cell 6
    have o7 : w3.cell? ⟨ob, 7, none⟩ = some (.int .i64 d.g) := HO3.out.cell 7
    have o8 : w3.cell? ⟨ob, 8, none⟩ = some (.int .i64 d.h) := HO3.out.cell 8
    have o9 : w3.cell? ⟨ob, 9, none⟩ = some (.bool d.p) := HO3.out.cell 9
    have o10 : w3.cell? ⟨ob, 10, none⟩ = some (.bool d.c) := HO3.out.cell 10
    have hol := HO3.out.lt
    have HKR := hide (keyright_any xA eA xn xc en ec xf xt d w3)
    rw [decide_eq_true hkr] at HKR
    clear hkr
    go_wp2_with fail
    refine HKR.out.mono ?_
    rintro e w4 ⟨rfl, hb4⟩
    have HT4 := hide (HT3.out.below hb4)
    have HR4 := hide (HR3.out.below hb4)
    have HK4 := hide (HK3.out.trans (Kt.below hb4))
    have HO4 := hide (HO3.out.below hb4 hol)
    clear hb4 o1 o2 o3 o4 o5 o6 o7 o8 o9 o10 hol HKR HT3 HR3 HK3 HO3
    have o1 : w4.cell? ⟨ob, 1, none⟩ = some (.slice xA xn xc) := HO4.out.cell 1
    have o2 : w4.cell? ⟨ob, 2, none⟩ = some (.int .i64 xf) := HO4.out.cell 2
    have o3 : w4.cell? ⟨ob, 3, none⟩ = some (.int .i64 xt) := HO4.out.cell 3
    have o4 : w4.cell? ⟨ob, 4, none⟩ = some (.slice eA en ec) := HO4.out.cell 4
    have o5 : w4.cell? ⟨ob, 5, none⟩ = some (.int .i64 d.s) := HO4.out.cell 5
    have o6 : w4.cell? ⟨ob, 6, none⟩ = some (.int .i64 d.n) := HO4.out.cell 6
    have o7 : w4.cell? ⟨ob, 7, none⟩ = some (.int .i64 d.g) := HO4.out.cell 7
    have o8 : w4.cell? ⟨ob, 8, none⟩ = some (.int .i64 d.h) := HO4.out.cell 8
    have o9 : w4.cell? ⟨ob, 9, none⟩ = some (.bool d.p) := HO4.out.cell 9
    have o10 : w4.cell? ⟨ob, 10, none⟩ = some (.bool d.c) := HO4.out.cell 10
    have hol := HO4.out.lt
    have HRD := hide (rdrop_any w w4 base xb v u D E b (⟨.slice xA xn xc, kb, xf, xt, .slice eA en ec, d⟩ : RC) HR4.out HX.out hD hwb)
    rw [HDL.out] at HRD
    go_wp2_with fail
    refine HRD.out.mono ?_
    rintro e w8 ⟨rfl, o, hr8, hf8⟩
    have HQ8 : Hid (TabG w w8 tb cb wm fm bg (delM L p) (if is_ then kpW bg L W F p else W) (if is_ then kpF bg L W F p else F) ∧ RT w w8 base xb o (dropL (⟨.slice xA xn xc, kb, xf, xt, .slice eA en ec, d⟩ : RC) D) u E b ∧ Ks X w8) := ⟨HT4.out.of_fr HR4.out.blk hf8 hwb, hr8, HK4.out.ks.trans (Ks.of_fr HR4.out.blk hf8)⟩
    have HU : Hid (UpdDrop bg (⟨.slice xA xn xc, kb, xf, xt, .slice eA en ec, d⟩ : RC) L W F D (delM L p) (if is_ then kpW bg L W F p else W) (if is_ then kpF bg L W F p else F) (dropL (⟨.slice xA xn xc, kb, xf, xt, .slice eA en ec, d⟩ : RC) D)) := by rw [HIS.out]; exact .inr ⟨p, HHP.out, rfl, rfl, rfl, rfl⟩
    clear hr8 hf8 HRD HT4 HR4 HK4 HO4 o1 o2 o3 o4 o5 o6 o7 o8 o9 o10 hol
    cases is_
    all_goals
      go_wp2_with fail
      go_ret
      exact ⟨rfl, _, _, _, o, _, HU.out, HQ8.out.1, HQ8.out.2.1, HQ8.out.2.2⟩
end Go.Proofs.Ytkobaidamdffmaa

namespace Go.Proofs.Ytkobaidamdffmaa
open Go.RowKit Go.Sort
set_option linter.unusedVariables false
set_option linter.unusedSimpArgs false

def ops15 (D : List Op15) : List Value := D.flatMap Op15.cells
theorem op_at {w : World} {B n c : Nat} {A : Option Addr} {S : List Op15} (h : Sl w B (.slice A n c) 11 n (ops15 S)) {k : Nat} (hk : k < n) (hD : S.length = n) :
    ∃ ad, A = some ad ∧ (ad.add (k * 11)).block < B ∧ w.cell? (ad.add (k * 11)) = some (.int .i64 (S[k]'(by omega)).k) ∧
      w.cell? ⟨(ad.add (k * 11)).block, (ad.add (k * 11)).off + 1, none⟩ = some (S[k]'(by omega)).x.k ∧
      w.cell? ⟨(ad.add (k * 11)).block, (ad.add (k * 11)).off + 2, none⟩ = some (.int .i64 (S[k]'(by omega)).x.f) ∧
      w.cell? ⟨(ad.add (k * 11)).block, (ad.add (k * 11)).off + 3, none⟩ = some (.int .i64 (S[k]'(by omega)).x.t) ∧
      w.cell? ⟨(ad.add (k * 11)).block, (ad.add (k * 11)).off + 4, none⟩ = some (S[k]'(by omega)).x.a ∧
      w.cell? ⟨(ad.add (k * 11)).block, (ad.add (k * 11)).off + 5, none⟩ = some (.int .i64 (S[k]'(by omega)).x.d.s) ∧
      w.cell? ⟨(ad.add (k * 11)).block, (ad.add (k * 11)).off + 6, none⟩ = some (.int .i64 (S[k]'(by omega)).x.d.n) ∧
      w.cell? ⟨(ad.add (k * 11)).block, (ad.add (k * 11)).off + 7, none⟩ = some (.int .i64 (S[k]'(by omega)).x.d.g) ∧
      w.cell? ⟨(ad.add (k * 11)).block, (ad.add (k * 11)).off + 8, none⟩ = some (.int .i64 (S[k]'(by omega)).x.d.h) ∧
      w.cell? ⟨(ad.add (k * 11)).block, (ad.add (k * 11)).off + 9, none⟩ = some (.bool (S[k]'(by omega)).x.d.p) ∧
      w.cell? ⟨(ad.add (k * 11)).block, (ad.add (k * 11)).off + 10, none⟩ = some (.bool (S[k]'(by omega)).x.d.c) := by
  obtain ⟨ad, rfl, hb, hh⟩ := h.at_ hk
  rw [ops15, part_of Op15.cells 11 (fun _ => rfl) S k (by omega)] at hh
  have hg : ∀ j v, (S[k]'(by omega)).cells[j + 1]? = some v → w.cell? ⟨(ad.add (k * 11)).block, (ad.add (k * 11)).off + (j + 1), none⟩ = some v := by
    intro j v hv
    have h9 := hh (j + 1) v hv
    rw [add_add', add_fld ad (k * 11) (j + 1) (by omega)] at h9
    exact h9
  refine ⟨ad, rfl, by rw [add_blk]; exact hb, ?_, hg 0 _ rfl, hg 1 _ rfl, hg 2 _ rfl, hg 3 _ rfl, hg 4 _ rfl, hg 5 _ rfl, hg 6 _ rfl, hg 7 _ rfl, hg 8 _ rfl, hg 9 _ rfl⟩
  have := hh 0 _ rfl
  rwa [add_add'] at this
/-- what a step of a kind below 3 keeps -/
def StU (bg : Bool) (L W : List (PK × CV)) (F : List (PK × Int)) (D : List RC) (L' W' : List (PK × CV)) (F' : List (PK × Int)) (D' : List RC) : Prop :=
  MatT L' D' ∧ L'.length ≤ L.length + 1 ∧ D'.length ≤ D.length + 1 ∧ (bg = true → ∀ M, BkI M L W F → BkI M L' W' F')
theorem StU.of_put {bg : Bool} {L W L' W' : List (PK × CV)} {F F' : List (PK × Int)} {D D' : List RC} {x : RC} (hM : MatT L D) (h : UpdPut bg x L W F D L' W' F' D') : StU bg L W F D L' W' F' D' := by
  rcases h with ⟨_, rfl, rfl, rfl, rfl⟩ | ⟨_, p, c, hp, hc, rfl, rfl, rfl, rfl⟩
  · exact ⟨hM, Nat.le_succ _, Nat.le_succ _, fun _ _ h => h⟩
  · exact ⟨hM.put hp hc, (put_len L p c).2, by have := putL_len x false D; simpa using this, fun e M h => by subst e; exact h.put p c⟩
theorem StU.of_drop {bg : Bool} {L W L' W' : List (PK × CV)} {F F' : List (PK × Int)} {D D' : List RC} {x : RC} (hM : MatT L D) (hn : (L.map (·.1)).Nodup) (h : UpdDrop bg x L W F D L' W' F' D') : StU bg L W F D L' W' F' D' := by
  rcases h with ⟨rfl, rfl, rfl, rfl⟩ | ⟨p, hp, rfl, rfl, rfl, rfl⟩
  · exact ⟨hM, Nat.le_succ _, Nat.le_succ _, fun _ _ h => h⟩
  · refine ⟨(hM.drop hn hp).1, by have := (del_len L p).2; omega, Nat.le_trans (List.length_filter_le _ _) (Nat.le_succ _), fun e M h => ?_⟩
    subst e
    cases hl : lk L p with
    | some c => exact h.drop hn p
    | none =>
      rw [lk_fk hl]
      exact h
theorem step_q (w X : World) (base tb cb xb : Nat) (wm fm : Option Nat) (bg : Bool) (L W : List (PK × CV)) (F : List (PK × Int)) (v u : Value) (D E : List RC) (b : Bool) (o : Op15) (ho : o.k < 3) (hT : TabG w X tb cb wm fm bg L W F) (hR : RT w X base xb v D u E b) (hx : RCQ w o.x) (hD : D.length ≤ 100000) (hwb : w.heap.size ≤ xb) (hM : MatT L D) :
    Calls Try.prog 23 #[.pointer (some ⟨tb, 0, none⟩), .pointer (some ⟨xb, 0, none⟩), .agg o.cells.toArray] X (StepQ w X base tb cb xb wm fm bg u E b (StU bg L W F D)) := by
  obtain ⟨k, x⟩ := o
  simp only at ho hx
  by_cases h1 : k = 1
  · subst h1
    refine (step_put w X base tb cb xb wm fm bg L W F v u D E b x hT hR hx hD hwb).mono ?_
    rintro e w' ⟨he, L', W', F', v', D', hu, h9⟩
    exact ⟨he, L', W', F', v', D', StU.of_put hM hu, h9⟩
  · by_cases h2 : k = 2
    · subst h2
      refine (step_drop w X base tb cb xb wm fm bg L W F v u D E b x hT hR hx hD hwb hM).mono ?_
      rintro e w' ⟨he, L', W', F', v', D', hu, h9⟩
      exact ⟨he, L', W', F', v', D', StU.of_drop hM hT.ts.nodup hu, h9⟩
    · refine (step_none w X base tb cb xb wm fm bg L W F v u D E b k x hT hR hx (by omega)).mono ?_
      rintro e w' ⟨he, L', W', F', v', D', ⟨rfl, rfl, rfl, rfl⟩, h9⟩
      exact ⟨he, _, _, _, v', _, ⟨hM, Nat.le_succ _, Nat.le_succ _, fun _ _ h => h⟩, h9⟩
theorem lback_g {w0 wx : World} {tb cb : Nat} {wm fm : Option Nat} {L W M : List (PK × CV)} {F : List (PK × Int)} (h : TabG w0 wx tb cb wm fm true L W F) (hM : BkI M L W F) : Calls Try.prog 24 #[.pointer (some ⟨tb, 0, none⟩)] wx fun e w' => e = .returned (.int .i64 0) ∧ ∃ L', SameT L' M ∧ TabG w0 w' tb cb wm fm false L' [] [] ∧ Kt wx w' := by
  refine (cback_any wx _ tb cb wm fm true L W F h.ts).mono ?_
  rintro e w' (⟨h1, _⟩ | ⟨_, rfl, L', h2, h3, h4⟩)
  · cases h1
  · exact ⟨rfl, L', fun q => (h2 q).trans (hM q), ⟨h3, h.after h4⟩, h.ts.kt h4⟩
end Go.Proofs.Ytkobaidamdffmaa
