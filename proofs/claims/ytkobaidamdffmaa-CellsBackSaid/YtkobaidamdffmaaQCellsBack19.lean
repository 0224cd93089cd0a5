/- The law's step: an op of kind 2, or of no kind (printed by genstp2.py). / maps.Copy at cells; cells.Table: Back (printed by genbk15.py). / Ops in memory; step of a kind below 3; Back as a law calls it. -/
import Derived.Test.YtkobaidamdffmaaQCellsBack18
import Derived.Test.YtkobaidamdffmaaQCellsBack17
import Derived.Test.YtkobaidamdffmaaQCellsBack11

namespace Go.Proofs.Ytkobaidamdffmaa
open Go.RowKit Go.Sort
set_option linter.unusedVariables false
set_option linter.unusedSimpArgs false

/-- what a Drop by step changes -/
def UpdDrop (bg : Bool) (x : RC) (L W : List (PK × CV)) (F : List (PK × Int)) (D : List RC) (L' W' : List (PK × CV)) (F' : List (PK × Int)) (D' : List RC) : Prop :=
  (L' = L ∧ W' = W ∧ F' = F ∧ D' = D) ∨ (∃ p, x.has p ∧ L' = delM L p ∧ W' = (if (lk L p).isSome then kpW bg L W F p else W) ∧ F' = (if (lk L p).isSome then kpF bg L W F p else F) ∧ D' = dropL x D)
set_option maxRecDepth 100000 in
set_option maxHeartbeats 8000000 in
theorem step_none (w X : World) (base tb cb xb : Nat) (wm fm : Option Nat) (bg : Bool) (L W : List (PK × CV)) (F : List (PK × Int)) (v u : Value) (D E : List RC) (b : Bool) (k : Int) (x : RC) (hT : TabG w X tb cb wm fm bg L W F) (hR : RT w X base xb v D u E b) (hx : RCQ w x) (hk : ¬ (1 ≤ k ∧ k ≤ 5)) :
    Calls Try.prog 23 #[.pointer (some ⟨tb, 0, none⟩), .pointer (some ⟨xb, 0, none⟩), .agg (.int .i64 k :: x.cells).toArray] X (StepQ w X base tb cb xb wm fm bg u E b (fun L' W' F' D' => L' = L ∧ W' = W ∧ F' = F ∧ D' = D)) := by
  obtain ⟨xk, kb, xf, xt, xa, d⟩ := x
  obtain ⟨xA, xc, hxk, hxc⟩ := hx.ks.form
  obtain ⟨eA, ec, hxe, hec⟩ := hx.ac.form
  simp only at hxk hxc hxe hec
  obtain ⟨xn, hxn⟩ : ∃ n, n = kb.length := ⟨_, rfl⟩
  obtain ⟨en, hen⟩ : ∃ n, n = d.b.length := ⟨_, rfl⟩
  rw [← hxn] at hxk hxc
  rw [← hen] at hxe hec
  subst hxk hxe
  have HXK : Hid (Sl w w.heap.size (.slice xA xn xc) 1 xn (bys kb) ∧ kb.length = xn ∧ Bytes8 kb ∧ xn ≤ 140737488355328) := ⟨by have h9 := hx.ks; rw [← hxn] at h9; exact h9, hxn.symm, hx.k8, by rw [hxn]; exact hx.kn⟩
  have HT := hide hT
  have HR := hide hR
  have HX := hide hx
  clear hx hxn hen hT hR
  unfold RC.cells
  simp only
  have HOP : Hid (Blk (X.alloc (.cells #[.int .i64 k, .slice xA xn xc, .int .i64 xf, .int .i64 xt, .slice eA en ec, .int .i64 d.s, .int .i64 d.n, .int .i64 d.g, .int .i64 d.h, .bool d.p, .bool d.c] opT15')) X.heap.size opT15' #[.int .i64 k, .slice xA xn xc, .int .i64 xf, .int .i64 xt, .slice eA en ec, .int .i64 d.s, .int .i64 d.n, .int .i64 d.g, .int .i64 d.h, .bool d.p, .bool d.c]) := Blk.new X _ _
  have HB0 : Hid (Below X.heap.size X (X.alloc (.cells #[.int .i64 k, .slice xA xn xc, .int .i64 xf, .int .i64 xt, .slice eA en ec, .int .i64 d.s, .int .i64 d.n, .int .i64 d.g, .int .i64 d.h, .bool d.p, .bool d.c] opT15'))) := (Below.refl X.heap.size X).alloc (Nat.le_refl _) _
  go_enter Try.func23, Try.ntmps23
  go_upto_region 1 with fail
  change Code.wp _ _ _ _ (X.alloc (.cells #[.int .i64 k, .slice xA xn xc, .int .i64 xf, .int .i64 xt, .slice eA en ec, .int .i64 d.s, .int .i64 d.n, .int .i64 d.g, .int .i64 d.h, .bool d.p, .bool d.c] opT15'))
  generalize (X.alloc (.cells #[.int .i64 k, .slice xA xn xc, .int .i64 xf, .int .i64 xt, .slice eA en ec, .int .i64 d.s, .int .i64 d.n, .int .i64 d.g, .int .i64 d.h, .bool d.p, .bool d.c] opT15')) = w1 at *
  obtain ⟨ob, hob⟩ : ∃ ob, ob = X.heap.size := ⟨_, rfl⟩
  rw [← hob] at HOP ⊢
  clear hob
  have o0 : w1.cell? ⟨ob, 0, none⟩ = some (.int .i64 k) := HOP.out.cell 0
  have hol := HOP.out.lt
  have h1 : ¬ k = 1 := by omega
  have h2 : ¬ k = 2 := by omega
  have h3 : ¬ k = 3 := by omega
  have h4 : ¬ k = 4 := by omega
  have h5 : ¬ k = 5 := by omega
  clear hk
  go_wp2_with fail
  go_ret
  exact ⟨rfl, L, W, F, v, D, ⟨rfl, rfl, rfl, rfl⟩, HT.out.below HB0.out, HR.out.below HB0.out, Ks.below HB0.out⟩
set_option maxRecDepth 100000 in
set_option maxHeartbeats 8000000 in
theorem step_drop (w X : World) (base tb cb xb : Nat) (wm fm : Option Nat) (bg : Bool) (L W : List (PK × CV)) (F : List (PK × Int)) (v u : Value) (D E : List RC) (b : Bool) (x : RC) (hT : TabG w X tb cb wm fm bg L W F) (hR : RT w X base xb v D u E b) (hx : RCQ w x) (hD : D.length ≤ 100000) (hwb : w.heap.size ≤ xb) (hM : MatT L D) :
    Calls Try.prog 23 #[.pointer (some ⟨tb, 0, none⟩), .pointer (some ⟨xb, 0, none⟩), .agg (.int .i64 2 :: x.cells).toArray] X (StepQ w X base tb cb xb wm fm bg u E b (UpdDrop bg x L W F D)) := by
  obtain ⟨xk, kb, xf, xt, xa, d⟩ := x
  obtain ⟨xA, xc, hxk, hxc⟩ := hx.ks.form
  obtain ⟨eA, ec, hxe, hec⟩ := hx.ac.form
  simp only at hxk hxc hxe hec
  obtain ⟨xn, hxn⟩ : ∃ n, n = kb.length := ⟨_, rfl⟩
  obtain ⟨en, hen⟩ : ∃ n, n = d.b.length := ⟨_, rfl⟩
  rw [← hxn] at hxk hxc
  rw [← hen] at hxe hec
  subst hxk hxe
  have HXK : Hid (Sl w w.heap.size (.slice xA xn xc) 1 xn (bys kb) ∧ kb.length = xn ∧ Bytes8 kb ∧ xn ≤ 140737488355328) := ⟨by have h9 := hx.ks; rw [← hxn] at h9; exact h9, hxn.symm, hx.k8, by rw [hxn]; exact hx.kn⟩
  have HT := hide hT
  have HR := hide hR
  have HX := hide hx
  clear hx hxn hen hT hR
  unfold RC.cells
  simp only
  have HOP : Hid (Blk (X.alloc (.cells #[.int .i64 2, .slice xA xn xc, .int .i64 xf, .int .i64 xt, .slice eA en ec, .int .i64 d.s, .int .i64 d.n, .int .i64 d.g, .int .i64 d.h, .bool d.p, .bool d.c] opT15')) X.heap.size opT15' #[.int .i64 2, .slice xA xn xc, .int .i64 xf, .int .i64 xt, .slice eA en ec, .int .i64 d.s, .int .i64 d.n, .int .i64 d.g, .int .i64 d.h, .bool d.p, .bool d.c]) := Blk.new X _ _
  have HB0 : Hid (Below X.heap.size X (X.alloc (.cells #[.int .i64 2, .slice xA xn xc, .int .i64 xf, .int .i64 xt, .slice eA en ec, .int .i64 d.s, .int .i64 d.n, .int .i64 d.g, .int .i64 d.h, .bool d.p, .bool d.c] opT15'))) := (Below.refl X.heap.size X).alloc (Nat.le_refl _) _
  go_enter Try.func23, Try.ntmps23
  go_upto_region 1 with fail
  change Code.wp _ _ _ _ (X.alloc (.cells #[.int .i64 2, .slice xA xn xc, .int .i64 xf, .int .i64 xt, .slice eA en ec, .int .i64 d.s, .int .i64 d.n, .int .i64 d.g, .int .i64 d.h, .bool d.p, .bool d.c] opT15'))
  generalize (X.alloc (.cells #[.int .i64 2, .slice xA xn xc, .int .i64 xf, .int .i64 xt, .slice eA en ec, .int .i64 d.s, .int .i64 d.n, .int .i64 d.g, .int .i64 d.h, .bool d.p, .bool d.c] opT15')) = w1 at *
  obtain ⟨ob, hob⟩ : ∃ ob, ob = X.heap.size := ⟨_, rfl⟩
  rw [← hob] at HOP ⊢
  clear hob
  have o0 : w1.cell? ⟨ob, 0, none⟩ = some (.int .i64 2) := HOP.out.cell 0
  have o1 : w1.cell? ⟨ob, 1, none⟩ = some (.slice xA xn xc) := HOP.out.cell 1
  have o2 : w1.cell? ⟨ob, 2, none⟩ = some (.int .i64 xf) := HOP.out.cell 2
  have o3 : w1.cell? ⟨ob, 3, none⟩ = some (.int .i64 xt) := HOP.out.cell 3
  have o4 : w1.cell? ⟨ob, 4, none⟩ = some (.slice eA en ec) := HOP.out.cell 4
  have o5 : w1.cell? ⟨ob, 5, none⟩ = some (.int .i64 d.s) := HOP.out.cell 5
  have o6 : w1.cell? ⟨ob, 6, none⟩ = some (.int .i64 d.n) := HOP.out.cell 6
  have o7 : w1.cell? ⟨ob, 7, none⟩ = some (.int .i64 d.g) := HOP.out.cell 7
  have o8 : w1.cell? ⟨ob, 8, none⟩ = some (.int .i64 d.h) := HOP.out.cell 8
  have o9 : w1.cell? ⟨ob, 9, none⟩ = some (.bool d.p) := HOP.out.cell 9
  have o10 : w1.cell? ⟨ob, 10, none⟩ = some (.bool d.c) := HOP.out.cell 10
  have hol := HOP.out.lt
  have HM := hide hM
  clear hM
  have HBQ := hide (HT.out.bl.trans (HB0.out.mono HT.out.bl.size))
  go_wp2_with fail
  refine (lkey_q xA xn xc xf xt (.slice eA en ec) d.s d.n d.g d.h d.p d.c kb w.heap.size w1 w1 (HXK.out.1.below HBQ.out) HXK.out.2.1 HXK.out.2.2.2 HBQ.out.size (Below.refl _ _)).mono ?_
  rintro e w2 ⟨kA, kc, rfl, hb2, hok, _⟩
  have HB2 := hide (HB0.out.trans (hb2.mono HB0.out.size))
  have HO2 := hide (HOP.out.below hb2 HOP.out.lt)
  have HDR := hide (cdrop_any w2 w.heap.size tb cb w2.heap.size xn kc wm fm bg L W F kA kb xf xt (HT.out.below HB2.out).ts hok.sl HXK.out.2.1 HXK.out.2.2.1 (Nat.le_refl _))
  clear o0 o1 o2 o3 o4 o5 o6 o7 o8 o9 o10 hol hb2 hok HOP HB0 HBQ
  go_wp2_with fail
  refine HDR.out.mono ?_
  clear HDR
  rintro e w3 (⟨hn, rfl, hb3⟩ | ⟨p, hp1, hp2, hp3, rfl, ht3, hf3⟩)
  · have HB3 := hide (HB2.out.trans (hb3.mono HB2.out.size))
    have HO3 := hide (HO2.out.below hb3 HO2.out.lt)
    have hn2 : ¬ keyR xn xf xt := by rw [← HXK.out.2.1]; exact hn
    clear hb3 hn HB2 HO2
    have o1 : w3.cell? ⟨ob, 1, none⟩ = some (.slice xA xn xc) := HO3.out.cell 1
    have o2 : w3.cell? ⟨ob, 2, none⟩ = some (.int .i64 xf) := HO3.out.cell 2
    have o3 : w3.cell? ⟨ob, 3, none⟩ = some (.int .i64 xt) := HO3.out.cell 3
    have o4 : w3.cell? ⟨ob, 4, none⟩ = some (.slice eA en ec) := HO3.out.cell 4
    have o5 : w3.cell? ⟨ob, 5, none⟩ = some (.int .i64 d.s) := HO3.out.cell 5
    have o6 : w3.cell? ⟨ob, 6, none⟩ = some (.int .i64 d.n) := HO3.out.cell 6
    have o7 : w3.cell? ⟨ob, 7, none⟩ = some (.int .i64 d.g) := HO3.out.cell 7
    have o8 : w3.cell? ⟨ob, 8, none⟩ = some (.int .i64 d.h) := HO3.out.cell 8
    have o9 : w3.cell? ⟨ob, 9, none⟩ = some (.bool d.p) := HO3.out.cell 9
    have o10 : w3.cell? ⟨ob, 10, none⟩ = some (.bool d.c) := HO3.out.cell 10
    have hol := HO3.out.lt
    have HKR := hide (keyright_any xA eA xn xc en ec xf xt d w3)
    rw [decide_eq_false hn2] at HKR
    clear hn2
    go_wp2_with fail
    refine HKR.out.mono ?_
    rintro e w4 ⟨rfl, hb4⟩
    have HB4 := hide (HB3.out.trans (hb4.mono HB3.out.size))
    clear hb4 o1 o2 o3 o4 o5 o6 o7 o8 o9 o10 hol HKR HB3 HO3
    go_wp2_with fail
    go_ret
    exact ⟨rfl, L, W, F, v, D, .inl ⟨rfl, rfl, rfl, rfl⟩, HT.out.below HB4.out, HR.out.below HB4.out, Ks.below HB4.out⟩
  · have hY := HT.out.below HB2.out
    have HT3 : Hid (TabG w w3 tb cb wm fm bg (delM L p) (if (lk L p).isSome then kpW bg L W F p else W) (if (lk L p).isSome then kpF bg L W F p else F)) := ⟨ht3, hY.after hf3⟩
    have hkt := hY.ts.kt hf3
    have HK3 : Hid (Kt X w3) := (Kt.below HB2.out).trans hkt
    have HO3 := hide (hkt.blk HO2.out (by decide))
    have HR3 := hide (HR.out.kt HK3.out HT3.out.bl)
    have hkr : keyR xn xf xt := ⟨by rw [← HXK.out.2.1, ← hp1]; exact p.ok.2.1, by have h9 := p.ok.2.2; rw [hp2, hp3] at h9; exact h9⟩
    have HHP : Hid ((⟨.slice xA xn xc, kb, xf, xt, .slice eA en ec, d⟩ : RC).has p) := ⟨hp1, hp2, hp3⟩
    have HDL : Hid (decide ((dropL (⟨.slice xA xn xc, kb, xf, xt, .slice eA en ec, d⟩ : RC) D).length < D.length) = (lk L p).isSome) := (HM.out.drop HT.out.ts.nodup HHP.out).2
    obtain ⟨is_, his⟩ : ∃ i, i = (lk L p).isSome := ⟨_, rfl⟩
    have HIS := hide his
    rw [← his] at HDL HT3 ⊢
    clear his ht3 hf3 hY hkt HB2 HO2 hp1 hp2 hp3
    have o1 : w3.cell? ⟨ob, 1, none⟩ = some (.slice xA xn xc) := HO3.out.cell 1
    have o2 : w3.cell? ⟨ob, 2, none⟩ = some (.int .i64 xf) := HO3.out.cell 2
    have o3 : w3.cell? ⟨ob, 3, none⟩ = some (.int .i64 xt) := HO3.out.cell 3
    have o4 : w3.cell? ⟨ob, 4, none⟩ = some (.slice eA en ec) := HO3.out.cell 4
    have o5 : w3.cell? ⟨ob, 5, none⟩ = some (.int .i64 d.s) := HO3.out.cell 5
    have o6 : w3.cell? ⟨ob, 6, none⟩ = some (.int .i64 d.n) := HO3.out.cell 6
    have o7 : w3.cell? ⟨ob, 7, none⟩ = some (.int .i64 d.g) := HO3.out.cell 7
    have o8 : w3.cell? ⟨ob, 8, none⟩ = some (.int .i64 d.h) := HO3.out.cell 8
    have o9 : w3.cell? ⟨ob, 9, none⟩ = some (.bool d.p) := HO3.out.cell 9
    have o10 : w3.cell? ⟨ob, 10, none⟩ = some (.bool d.c) := HO3.out.cell 10
    have hol := HO3.out.lt
    have HKR := hide (keyright_any xA eA xn xc en ec xf xt d w3)
    rw [decide_eq_true hkr] at HKR
    clear hkr
    go_wp2_with fail
    refine HKR.out.mono ?_
    rintro e w4 ⟨rfl, hb4⟩
    have HT4 := hide (HT3.out.below hb4)
    have HR4 := hide (HR3.out.below hb4)
    have HK4 := hide (HK3.out.trans (Kt.below hb4))
    have HO4 := hide (HO3.out.below hb4 hol)
    clear hb4 o1 o2 o3 o4 o5 o6 o7 o8 o9 o10 hol HKR HT3 HR3 HK3 HO3
    have o1 : w4.cell? ⟨ob, 1, none⟩ = some (.slice xA xn xc) := HO4.out.cell 1
    have o2 : w4.cell? ⟨ob, 2, none⟩ = some (.int .i64 xf) := HO4.out.cell 2
    have o3 : w4.cell? ⟨ob, 3, none⟩ = some (.int .i64 xt) := HO4.out.cell 3
    have o4 : w4.cell? ⟨ob, 4, none⟩ = some (.slice eA en ec) := HO4.out.cell 4
    have o5 : w4.cell? ⟨ob, 5, none⟩ = some (.int .i64 d.s) := HO4.out.cell 5
    have o6 : w4.cell? ⟨ob, 6, none⟩ = some (.int .i64 d.n) := HO4.out.cell 6
    have o7 : w4.cell? ⟨ob, 7, none⟩ = some (.int .i64 d.g) := HO4.out.cell 7
    have o8 : w4.cell? ⟨ob, 8, none⟩ = some (.int .i64 d.h) := HO4.out.cell 8
    have o9 : w4.cell? ⟨ob, 9, none⟩ = some (.bool d.p) := HO4.out.cell 9
    have o10 : w4.cell? ⟨ob, 10, none⟩ = some (.bool d.c) := HO4.out.cell 10
    have hol := HO4.out.lt
    have HRD := hide (rdrop_any w w4 base xb v u D E b (⟨.slice xA xn xc, kb, xf, xt, .slice eA en ec, d⟩ : RC) HR4.out HX.out hD hwb)
    rw [HDL.out] at HRD
    go_wp2_with fail
    refine HRD.out.mono ?_
    rintro e w8 ⟨rfl, o, hr8, hf8⟩
    have HQ8 : Hid (TabG w w8 tb cb wm fm bg (delM L p) (if is_ then kpW bg L W F p else W) (if is_ then kpF bg L W F p else F) ∧ RT w w8 base xb o (dropL (⟨.slice xA xn xc, kb, xf, xt, .slice eA en ec, d⟩ : RC) D) u E b ∧ Ks X w8) := ⟨HT4.out.of_fr HR4.out.blk hf8 hwb, hr8, HK4.out.ks.trans (Ks.of_fr HR4.out.blk hf8)⟩
    have HU : Hid (UpdDrop bg (⟨.slice xA xn xc, kb, xf, xt, .slice eA en ec, d⟩ : RC) L W F D (delM L p) (if is_ then kpW bg L W F p else W) (if is_ then kpF bg L W F p else F) (dropL (⟨.slice xA xn xc, kb, xf, xt, .slice eA en ec, d⟩ : RC) D)) := by rw [HIS.out]; exact .inr ⟨p, HHP.out, rfl, rfl, rfl, rfl⟩
    clear hr8 hf8 HRD HT4 HR4 HK4 HO4 o1 o2 o3 o4 o5 o6 o7 o8 o9 o10 hol
    cases is_
    all_goals
      go_wp2_with fail
      go_ret
      exact ⟨rfl, _, _, _, o, _, HU.out, HQ8.out.1, HQ8.out.2.1, HQ8.out.2.2⟩
end Go.Proofs.Ytkobaidamdffmaa

namespace Go.Proofs.Ytkobaidamdffmaa
open Go.RowKit Go.Sort
set_option linter.unusedVariables false
set_option linter.unusedSimpArgs false

section
variable {β : Type}
theorem mem_lk {L : List (PK × β)} (hn : (L.map (·.1)).Nodup) {q : PK} {c : β} (h : (q, c) ∈ L) : lk L q = some c := by
  induction L with
  | nil => cases h
  | cons x L ih =>
    obtain ⟨p, u⟩ := x
    rw [List.map_cons, List.nodup_cons] at hn
    unfold lk
    rcases List.mem_cons.1 h with h1 | h1
    · injection h1 with h1 h2
      rw [if_pos h1, h2]
    · rw [if_neg (fun e => hn.1 (by rw [← e]; exact List.mem_map_of_mem (f := (·.1)) h1))]
      exact ih hn.2 h1
theorem lk_perm {L M : List (PK × β)} (h : L.Perm M) (hn : (L.map (·.1)).Nodup) (q : PK) : lk L q = lk M q := by
  have hm : (M.map (·.1)).Nodup := (h.map _).nodup_iff.1 hn
  cases h1 : lk L q with
  | some c => exact (mem_lk hm (h.mem_iff.1 (lk_mem h1))).symm
  | none =>
    cases h2 : lk M q with
    | none => rfl
    | some c => rw [mem_lk hn (h.mem_iff.2 (lk_mem h2))] at h1; cases h1
theorem lk_some_iff (L : List (PK × β)) (q : PK) : (lk L q).isSome = true ↔ q ∈ L.map (·.1) := by
  induction L with
  | nil => simp [lk]
  | cons x L ih =>
    obtain ⟨p, u⟩ := x
    unfold lk
    by_cases h : q = p
    · simp [h]
    · rw [if_neg h, ih]
      simp [h]
end
def foldP (D L : List (PK × CV)) : List (PK × CV) := D.foldl (fun L x => putM L x.1 x.2) L
def foldD (D : List (PK × Int)) (L : List (PK × CV)) : List (PK × CV) := D.foldl (fun L x => delM L x.1) L
theorem foldP_snoc (D L : List (PK × CV)) (x : PK × CV) : foldP (D ++ [x]) L = putM (foldP D L) x.1 x.2 := by unfold foldP; rw [List.foldl_append]; rfl
theorem foldD_snoc (D : List (PK × Int)) (L : List (PK × CV)) (x : PK × Int) : foldD (D ++ [x]) L = delM (foldD D L) x.1 := by unfold foldD; rw [List.foldl_append]; rfl
theorem lk_foldP : ∀ (D L : List (PK × CV)), (D.map (·.1)).Nodup → ∀ q, lk (foldP D L) q = match lk D q with | some c => some c | none => lk L q
  | [], L, _, q => rfl
  | (p, c) :: D, L, hn, q => by
    rw [List.map_cons, List.nodup_cons] at hn
    show lk (foldP D (putM L p c)) q = _
    rw [lk_foldP D _ hn.2 q]
    by_cases h : q = p
    · subst h
      have h1 : lk D q = none := by
        cases h2 : lk D q with
        | none => rfl
        | some u => exact absurd (List.mem_map_of_mem (f := (·.1)) (lk_mem h2)) hn.1
      rw [h1, lk_put, if_pos rfl]
      show _ = match (if q = q then some c else lk D q) with | some c => some c | none => lk L q
      rw [if_pos rfl]
    · have h1 : lk ((p, c) :: D) q = lk D q := if_neg h
      rw [h1, lk_put, if_neg h]
theorem foldP_mem : ∀ (D L : List (PK × CV)) (x : PK × CV), x ∈ foldP D L → x ∈ D ∨ x ∈ L
  | [], L, x, h => .inr h
  | (p, c) :: D, L, x, h => by
    rcases foldP_mem D (putM L p c) x h with h1 | h1
    · exact .inl (List.mem_cons_of_mem _ h1)
    · rcases mem_put h1 with h2 | h2
      · exact .inr h2
      · exact .inl (by rw [h2]; exact List.mem_cons_self)
theorem delM_mem {L : List (PK × CV)} {p : PK} {x : PK × CV} (h : x ∈ delM L p) : x ∈ L := by
  induction L with
  | nil => simp [delM] at h
  | cons y L ih =>
    unfold delM at h
    split at h
    · exact List.mem_cons_of_mem _ h
    · rcases List.mem_cons.1 h with h1 | h1
      · rw [h1]; exact List.mem_cons_self
      · exact List.mem_cons_of_mem _ (ih h1)
theorem foldD_mem : ∀ (D : List (PK × Int)) (L : List (PK × CV)) (x : PK × CV), x ∈ foldD D L → x ∈ L
  | [], L, x, h => h
  | y :: D, L, x, h => delM_mem (foldD_mem D (delM L y.1) x h)
theorem lk_foldD : ∀ (D : List (PK × Int)) (L : List (PK × CV)), (L.map (·.1)).Nodup → ∀ q, lk (foldD D L) q = if q ∈ D.map (·.1) then none else lk L q
  | [], L, _, q => by simp [foldD]
  | y :: D, L, hn, q => by
    show lk (foldD D (delM L y.1)) q = _
    rw [lk_foldD D _ (nodup_del hn y.1) q, lk_del hn, List.map_cons]
    by_cases h1 : q ∈ D.map (·.1)
    · rw [if_pos h1, if_pos (List.mem_cons_of_mem _ h1)]
    · rw [if_neg h1]
      by_cases h2 : q = y.1
      · rw [if_pos h2, if_pos (by rw [h2]; exact List.mem_cons_self)]
      · rw [if_neg h2, if_neg (fun h => by rcases List.mem_cons.1 h with h | h; exact h2 h; exact h1 h)]
theorem back_lk {L W D' : List (PK × CV)} {F D : List (PK × Int)} (hL : (L.map (·.1)).Nodup) (hW : (W.map (·.1)).Nodup) (hD' : W.Perm D') (hD : F.Perm D) (q : PK) : (lk (foldP D' (foldD D L)) q).map CV.d = backM L W F q := by
  have hn : (D'.map (·.1)).Nodup := (hD'.map _).nodup_iff.1 hW
  rw [lk_foldP D' _ hn q, ← lk_perm hD' hW q]
  unfold backM
  cases h1 : lk W q with
  | some c => rfl
  | none =>
    simp only
    rw [lk_foldD D L hL q]
    by_cases h2 : q ∈ D.map (·.1)
    · rw [if_pos h2, if_pos ((lk_some_iff F q).2 ((hD.map (·.1)).mem_iff.2 h2))]
      rfl
    · rw [if_neg h2, if_neg (fun h => h2 ((hD.map (·.1)).mem_iff.1 ((lk_some_iff F q).1 h)))]

set_option maxRecDepth 100000 in
set_option maxHeartbeats 4000000 in
theorem mcopy_any (w : World) (cb wb : Nat) (L W : List (PK × CV)) (hL : MapR w cb plV cvV L) (hW : MapR w wb plV cvV W) (hne : cb ≠ wb) (hv : ∀ p ∈ W, ∃ A n k, p.2.v = .slice A n k) :
    Calls Try.prog 47 #[.map (some cb), .map (some wb)] w fun e w' => e = .returned (.tuple #[]) ∧ ∃ D', W.Perm D' ∧ MapR w' cb plV cvV (foldP D' L) ∧ Fr (fun j => j = cb) w w' := by
  have HML := hide hL
  have HMW := hide hW
  have HV := hide hv
  have HNE : Hid (cb ≠ wb) := hne
  have hcl := hL.lt
  have hwl := hW.lt
  clear hL hW hv hne
  go_enter Try.func47, Try.ntmps47
  go_wp2_with (at_range; refine wpList_range_it rfl _ rfl cmU rfl HMW.out ?_; intro ob hI0)
  go_frame
  have HI0 : Hid (ItR (w.alloc ob) wb w.heap.size plV cvV W [] ∧ MapR (w.alloc ob) cb plV cvV (foldP [] L) ∧ Fr (fun j => j = cb) w (w.alloc ob)) := ⟨hI0, HML.out.below ((Below.refl _ _).alloc (Nat.le_refl _) _) hcl, Fr.of_below ((Below.refl _ _).alloc (Nat.le_refl _) _)⟩
  clear hI0
  go_loopw [4] (fun _ wr => ∃ (D : List (PK × CV)), Hid (ItR wr wb w.heap.size plV cvV W D ∧ MapR wr cb plV cvV (foldP D L) ∧ Fr (fun j => j = cb) w wr)) (fun _ wr => itLeft wr wb w.heap.size)
  case atStart => exact ⟨[], HI0.out⟩
  case round =>
  clear HI0
  obtain ⟨D, HI⟩ := hrel
  go_wp2_with (at_next; refine wpList_next_it' rfl _ rfl rfl HI.out.1 ?_ ?_)
  · intro hp
    have HP := hide hp
    clear hp
    go_wp2_with fail
    go_end0
    exact ⟨rfl, D, HP.out, HI.out.2⟩
  · intro w2 kv vv hst
    obtain ⟨pc, hkv, hvv, hp, hI2, hlt, hf2, hsz, hen⟩ := hst
    obtain ⟨cA, cn, cc, hvs⟩ := HV.out pc hp
    obtain ⟨p, ⟨cv, ⟨cD, cs, ci, cg, ch, cp, cq⟩⟩⟩ := pc
    simp only at hvs
    subst hvs
    have hkv2 : kv = .agg #[.string (strOfNums p.b), .int .i64 p.f, .int .i64 p.t] := hkv
    have hvv2 : vv = .agg #[.slice cA cn cc, .int .i64 cs, .int .i64 ci, .int .i64 cg, .int .i64 ch, .bool cp, .bool cq] := hvv
    clear hkv hvv hp
    subst hkv2 hvv2
    have HPV : Hid (plV p = .agg #[.string (strOfNums p.b), .int .i64 p.f, .int .i64 p.t]) := rfl
    have hne2 := HI.out.1.ne_map HI.out.2.1
    have HM2 : Hid (MapR w2 cb plV cvV (foldP D L)) := HI.out.2.1.fr hf2 (fun e => hne2 e.symm)
    have HF2 : Hid (Fr (fun j => j = cb) w w2) := HI.out.2.2.trans hf2 (fun k hk e => by omega)
    have HI2 := hide hI2
    have HLT : Hid (D.length < W.length) := hlt
    have hr2 : w.heap.size ≠ cb := hne2
    have h2l := HM2.out.lt
    have hb3 : Below w2.heap.size w2 ((w2.alloc (.cells #[.string (strOfNums p.b), .int .i64 p.f, .int .i64 p.t] plT)).alloc (.cells #[.slice cA cn cc, .int .i64 cs, .int .i64 ci, .int .i64 cg, .int .i64 ch, .bool cp, .bool cq] cvT)) := ((Below.refl _ _).alloc (Nat.le_refl _) _).alloc (by simp) _
    obtain ⟨w4, hr, hm4, hf4, _⟩ := (HM2.out.below hb3 h2l).upd plW cmU p (⟨.slice cA cn cc, ⟨cD, cs, ci, cg, ch, cp, cq⟩⟩ : CV) (P := Try.prog)
    rw [HPV.out] at hr
    have hr' : (Instr.mapUpdate cmT (.map (some cb)) (.agg #[.string (strOfNums p.b), .int .i64 p.f, .int .i64 p.t]) (.agg #[.slice cA cn cc, .int .i64 cs, .int .i64 ci, .int .i64 cg, .int .i64 ch, .bool cp, .bool cq])).run Try.prog ((w2.alloc (.cells #[.string (strOfNums p.b), .int .i64 p.f, .int .i64 p.t] plT)).alloc (.cells #[.slice cA cn cc, .int .i64 cs, .int .i64 ci, .int .i64 cg, .int .i64 ch, .bool cp, .bool cq] cvT)) = .ok () w4 := hr
    have HI4 : Hid (ItR w4 wb w.heap.size plV cvV W (D ++ [(p, (⟨.slice cA cn cc, ⟨cD, cs, ci, cg, ch, cp, cq⟩⟩ : CV))]) ∧ MapR w4 cb plV cvV (foldP (D ++ [(p, (⟨.slice cA cn cc, ⟨cD, cs, ci, cg, ch, cp, cq⟩⟩ : CV))]) L) ∧ Fr (fun j => j = cb) w w4) := by
      refine ⟨(HI2.out.below hb3 HI2.out.lt.1 HI2.out.lt.2).fr hf4 (fun e => HNE.out e.symm) (fun e => hr2 e), ?_, ?_⟩
      · rw [foldP_snoc]; exact hm4
      · exact (HF2.out.trans (Fr.of_below hb3) (fun k _ h => h)).trans hf4 (fun _ _ h => h)
    have HL : Hid (itLeft w4 wb w.heap.size < itLeft wr wb w.heap.size) := by
      rw [Hid, HI4.out.1.left_eq, HI.out.1.left_eq, List.length_append]
      have := HLT.out
      simp only [List.length_cons, List.length_nil]
      omega
    generalize strOfNums p.b = ps at *
    generalize p.f = pf at *
    generalize p.t = pt at *
    clear hr hm4 hf4 hb3 hI2 hf2 hsz hlt HM2 HF2 HPV HI HI2
    go_wp2_with fail
    go_roundw
    case rel => exact ⟨_, HI4.out⟩
    case measure => exact HL.out

/-- behind Back -/
def BackP (w : World) (base tb cb : Nat) (wm fm : Option Nat) (bg : Bool) (L W : List (PK × CV)) (F : List (PK × Int)) (e : Ending) (w' : World) : Prop :=
  (bg = false ∧ e = .returned (.int .i64 171) ∧ Below w.heap.size w w') ∨
  (bg = true ∧ e = .returned (.int .i64 0) ∧ ∃ L', (∀ q, (lk L' q).map CV.d = backM L W F q) ∧ TabS w' base tb cb wm fm false L' [] [] ∧ Fr (TBk tb cb wm fm bg) w w')
set_option maxRecDepth 100000 in
set_option maxHeartbeats 8000000 in
theorem cback_any (w : World) (base tb cb : Nat) (wm fm : Option Nat) (bg : Bool) (L W : List (PK × CV)) (F : List (PK × Int)) (h : TabS w base tb cb wm fm bg L W F) :
    Calls Try.prog 24 #[.pointer (some ⟨tb, 0, none⟩)] w (BackP w base tb cb wm fm bg L W F) := by
  obtain ⟨t0, t1, t2, t3, htl⟩ := h.open
  have HT := hide h
  cases bg with
  | false =>
    clear h
    go_enter Try.func24, Try.ntmps24
    go_wp2_with fail
    go_ret
    exact .inl ⟨rfl, rfl, Below.refl _ _⟩
  | true =>
    obtain ⟨wb, fb, rfl, rfl, hbeg⟩ := h.beg rfl
    have HMF := hide hbeg.fm
    have HNE := hide hbeg.ne
    have HWN : Hid ((W.map (·.1)).Nodup) := by obtain ⟨_, _, _, _, hnd, _⟩ := hbeg.wm; exact hnd
    have HWV : Hid (∀ p ∈ W, ∃ A n k, p.2.v = .slice A n k) := fun p hp => by
      obtain ⟨A, c, h9, _⟩ := (hbeg.acc p hp).1.sl.form
      exact ⟨A, _, c, h9⟩
    have hfl := hbeg.fm.lt
    clear h hbeg
    go_enter Try.func24, Try.ntmps24
    go_wp2_with (at_range; refine wpList_range_it rfl _ rfl fmU rfl HMF.out ?_; intro ob hI0)
    go_frame
    have HI0 : Hid (ItR (w.alloc ob) fb w.heap.size plV intV F [] ∧ TabS (w.alloc ob) base tb cb (some wb) (some fb) true (foldD [] L) W F ∧ Fr (fun j => j = cb) w (w.alloc ob)) := ⟨hI0, HT.out.below ((Below.refl _ _).alloc (Nat.le_refl _) _), Fr.of_below ((Below.refl _ _).alloc (Nat.le_refl _) _)⟩
    clear hI0 t0 t1 t2 t3
    go_loopw [3] (fun _ wr => ∃ (D : List (PK × Int)), Hid (ItR wr fb w.heap.size plV intV F D ∧ TabS wr base tb cb (some wb) (some fb) true (foldD D L) W F ∧ Fr (fun j => j = cb) w wr)) (fun _ wr => itLeft wr fb w.heap.size)
    case atStart => exact ⟨[], HI0.out⟩
    case round =>
    clear HI0
    obtain ⟨D, HI⟩ := hrel
    go_wp2_with (at_next; refine wpList_next_it' rfl _ rfl rfl HI.out.1 ?_ ?_)
    · intro hp
      have HP := hide hp
      have HTR := hide HI.out.2.1
      have HFR := hide HI.out.2.2
      clear hp HI
      have HCP : Hid (∀ Y : World, Below wr.heap.size wr Y → Calls Try.prog 47 #[.map (some cb), .map (some wb)] Y fun e w' => e = .returned (.tuple #[]) ∧ ∃ D', W.Perm D' ∧ TabS w' base tb cb (some wb) (some fb) true (foldP D' (foldD D L)) W F ∧ Fr (fun j => j = cb) w w') := fun Y hY => by
        have hTY := HTR.out.below hY
        obtain ⟨wb', fb', e1, e2, h3⟩ := hTY.beg rfl
        injection e1 with e1
        injection e2 with e2
        subst e1 e2
        refine (mcopy_any Y cb wb (foldD D L) W hTY.map h3.wm HNE.out.1 HWV.out).mono ?_
        rintro e w' ⟨rfl, D', hd, hm, hf⟩
        refine ⟨rfl, D', hd, hTY.recell hf hm (fun x hx => ?_), (HFR.out.trans (Fr.of_below hY) (fun k _ h => h)).trans hf (fun _ _ h => h)⟩
        rcases foldP_mem D' _ x hx with h9 | h9
        · exact h3.acc x (hd.mem_iff.2 h9)
        · exact hTY.acc x h9
      obtain ⟨t0, t1, t2, t3, _⟩ := HTR.out.open
      have HS : Hid (wr.cell? ⟨tb, 0, none⟩ = some (.map (some cb)) ∧ wr.cell? ⟨tb, 1, none⟩ = some (.map (some wb))) := ⟨t0, t1⟩
      have HSD : Hid (wr.drew.cell? ⟨tb, 0, none⟩ = some (.map (some cb)) ∧ wr.drew.cell? ⟨tb, 1, none⟩ = some (.map (some wb))) := ⟨t0, t1⟩
      have HRD : Hid (Below wr.heap.size wr wr.drew) := (Below.refl _ _).drewN 1
      have htr := HTR.out.blk.lt
      clear t2 t3
      go_wp2_with fail
      go_region_held3 (fun X : World => X.cell? ⟨tb, 0, none⟩ = some (.map (some cb)) ∧ X.cell? ⟨tb, 1, none⟩ = some (.map (some wb))) (first | with_reducible exact HS.out | with_reducible exact HSD.out | exact ⟨ht9.blk.cell 0, ht9.blk.cell 1⟩) (first
        | (go_at_call 47; have hc := HCP.out _ HRD.out; refine Calls.mono hc ?_; clear hc; rintro e w9 ⟨rfl, D', hd9, ht9, hf9⟩))
      all_goals
        have HT9 := hide ht9
        have HF9 := hide hf9
        have HD9 := hide hd9
        clear ht9 hf9 hd9 t0 t1 HS HSD HRD HCP HTR HFR htr
        obtain ⟨t0, t1, t2, t3, _⟩ := HT9.out.open
        have htz := HT9.out.blk.lt
        have y3 := HT9.out.blk.frozen 3
        go_wp2_with fail
        go_ret
        refine .inr ⟨rfl, rfl, foldP D' (foldD D L), back_lk HT.out.nodup HWN.out HD9.out HP.out, HT9.out.unbegin.1, ?_⟩
        exact (Fr.mono (T := TBk tb cb (some wb) (some fb) true) HF9.out (fun k _ e => .inr (.inl e))).trans (Fr.mono (T := TBk tb cb (some wb) (some fb) true) HT9.out.unbegin.2 (fun k _ e => .inl e)) (fun _ _ h => h)
    · intro w2 kv vv hst
      obtain ⟨pc, hkv, hvv, hp, hI2, hlt, hf2, hsz, hen⟩ := hst
      obtain ⟨p, z⟩ := pc
      have hkv2 : kv = .agg #[.string (strOfNums p.b), .int .i64 p.f, .int .i64 p.t] := hkv
      have hvv2 : vv = .int .i64 z := hvv
      clear hkv hvv hp
      subst hkv2 hvv2
      have HPV : Hid (plV p = .agg #[.string (strOfNums p.b), .int .i64 p.f, .int .i64 p.t]) := rfl
      have hnm := HI.out.1.ne_map HI.out.2.1.map
      have HT2 : Hid (TabS w2 base tb cb (some wb) (some fb) true (foldD D L) W F) := HI.out.2.1.fr hf2 (fun j hj e => by
        have h9 := (HT.out.lows j hj).2
        omega) (fun g cs hb e => (HI.out.1.ne_blk hb).2 e.symm)
      have HF2 : Hid (Fr (fun j => j = cb) w w2) := HI.out.2.2.trans hf2 (fun k hk e => by omega)
      have HI2 := hide hI2
      have HLT : Hid (D.length < F.length) := hlt
      obtain ⟨ps, hps⟩ : ∃ ps, ps = strOfNums p.b := ⟨_, rfl⟩
      obtain ⟨pf, hpf⟩ : ∃ pf, pf = p.f := ⟨_, rfl⟩
      obtain ⟨pt, hpt⟩ : ∃ pt, pt = p.t := ⟨_, rfl⟩
      rw [← hps, ← hpf, ← hpt] at HPV hen ⊢
      clear hps hpf hpt hf2 hsz hlt hI2
      go_upto_region 6 with fail
      have hb3 : Below w2.heap.size w2 (w2.alloc (.cells #[.string ps, .int .i64 pf, .int .i64 pt] plT)) := (Below.refl _ _).alloc (Nat.le_refl _) _
      have HT3 := hide (HT2.out.below hb3)
      have HF3 : Hid (Fr (fun j => j = cb) w (w2.alloc (.cells #[.string ps, .int .i64 pf, .int .i64 pt] plT))) := HF2.out.trans (Fr.of_below hb3) (fun k _ h => h)
      have HI3 := hide (HI2.out.below hb3 HI2.out.lt.1 HI2.out.lt.2)
      have HPB : Hid (Blk (w2.alloc (.cells #[.string ps, .int .i64 pf, .int .i64 pt] plT)) w2.heap.size plT #[.string ps, .int .i64 pf, .int .i64 pt]) := Blk.new w2 _ _
      change Code.wp _ _ _ _ (w2.alloc (.cells #[.string ps, .int .i64 pf, .int .i64 pt] plT))
      clear hb3 hen
      generalize (w2.alloc (.cells #[.string ps, .int .i64 pf, .int .i64 pt] plT)) = w3 at *
      generalize w2.heap.size = pb at *
      have hTD := HT3.out.below ((Below.refl w3.heap.size w3).drewN 1)
      obtain ⟨w8, hr, hm8, hf8, _⟩ := hTD.map.del plW cmU p (P := Try.prog) (ty := 0)
      have hr' : (Builtin.delete_ #[cmT, plT] 0 #[.map (some cb), .agg #[.string ps, .int .i64 pf, .int .i64 pt]]).run Try.prog w3.drew = .ok (.tuple #[]) w8 := by rw [← HPV.out]; exact hr
      have HT8 : Hid (TabS w8 base tb cb (some wb) (some fb) true (foldD (D ++ [(p, z)]) L) W F) := by
        rw [foldD_snoc]
        exact hTD.recell hf8 hm8 (fun x hx => hTD.acc x (delM_mem hx))
      have hf8' : Fr (fun j => j = cb) w3 w8 := hf8.drew0
      have HI8 : Hid (ItR w8 fb w.heap.size plV intV F (D ++ [(p, z)])) := HI3.out.fr hf8' (fun e => HNE.out.2.1 e.symm) (fun e => hnm e)
      have HF8 : Hid (Fr (fun j => j = cb) w w8) := HF3.out.trans hf8' (fun _ _ h => h)
      have hP8 := hf8'.blk HPB.out (fun e => by have h9 := HT3.out.map.ne_blk HPB.out; exact h9 e.symm)
      have t0 : w3.cell? ⟨tb, 0, none⟩ = some (.map (some cb)) := HT3.out.blk.cell 0
      have p0 : w3.cell? ⟨pb, 0, none⟩ = some (.string ps) := HPB.out.cell 0
      have p1 : w3.cell? ⟨pb, 1, none⟩ = some (.int .i64 pf) := HPB.out.cell 1
      have p2 : w3.cell? ⟨pb, 2, none⟩ = some (.int .i64 pt) := HPB.out.cell 2
      have HS6 : Hid ((fun X : World => X.cell? ⟨tb, 0, none⟩ = some (.map (some cb)) ∧ X.cell? ⟨pb, 0, none⟩ = some (.string ps) ∧ X.cell? ⟨pb, 1, none⟩ = some (.int .i64 pf) ∧ X.cell? ⟨pb, 2, none⟩ = some (.int .i64 pt)) w3) := ⟨t0, p0, p1, p2⟩
      have HSD : Hid ((fun X : World => X.cell? ⟨tb, 0, none⟩ = some (.map (some cb)) ∧ X.cell? ⟨pb, 0, none⟩ = some (.string ps) ∧ X.cell? ⟨pb, 1, none⟩ = some (.int .i64 pf) ∧ X.cell? ⟨pb, 2, none⟩ = some (.int .i64 pt)) w3.drew) := ⟨t0, p0, p1, p2⟩
      have HS8 : Hid ((fun X : World => X.cell? ⟨tb, 0, none⟩ = some (.map (some cb)) ∧ X.cell? ⟨pb, 0, none⟩ = some (.string ps) ∧ X.cell? ⟨pb, 1, none⟩ = some (.int .i64 pf) ∧ X.cell? ⟨pb, 2, none⟩ = some (.int .i64 pt)) w8) := ⟨HT8.out.blk.cell 0, hP8.cell 0, hP8.cell 1, hP8.cell 2⟩
      have HL : Hid (itLeft w8 fb w.heap.size < itLeft wr fb w.heap.size) := by
        rw [Hid, HI8.out.left_eq, HI.out.1.left_eq, List.length_append]
        have := HLT.out
        simp only [List.length_cons, List.length_nil]
        omega
      clear hTD hr hm8 hf8 hf8' hP8 HT3 HF3 HI3 HT2 HF2 HI2 HI
      have htl3 := HPB.out.lt
      go_region_held3 (fun X : World => X.cell? ⟨tb, 0, none⟩ = some (.map (some cb)) ∧ X.cell? ⟨pb, 0, none⟩ = some (.string ps) ∧ X.cell? ⟨pb, 1, none⟩ = some (.int .i64 pf) ∧ X.cell? ⟨pb, 2, none⟩ = some (.int .i64 pt)) (first | with_reducible exact HS6.out | with_reducible exact HSD.out | with_reducible exact HS8.out) (fail)
      all_goals
        clear HS6 HSD HS8 t0 p0 p1 p2 HPB htl3
        go_wp2_with fail
        go_roundw
        case rel => exact ⟨_, HI8.out, HT8.out, HF8.out⟩
        case measure => exact HL.out
end Go.Proofs.Ytkobaidamdffmaa

namespace Go.Proofs.Ytkobaidamdffmaa
open Go.RowKit Go.Sort
set_option linter.unusedVariables false
set_option linter.unusedSimpArgs false

def ops15 (D : List Op15) : List Value := D.flatMap Op15.cells
theorem op_at {w : World} {B n c : Nat} {A : Option Addr} {S : List Op15} (h : Sl w B (.slice A n c) 11 n (ops15 S)) {k : Nat} (hk : k < n) (hD : S.length = n) :
    ∃ ad, A = some ad ∧ (ad.add (k * 11)).block < B ∧ w.cell? (ad.add (k * 11)) = some (.int .i64 (S[k]'(by omega)).k) ∧
      w.cell? ⟨(ad.add (k * 11)).block, (ad.add (k * 11)).off + 1, none⟩ = some (S[k]'(by omega)).x.k ∧
      w.cell? ⟨(ad.add (k * 11)).block, (ad.add (k * 11)).off + 2, none⟩ = some (.int .i64 (S[k]'(by omega)).x.f) ∧
      w.cell? ⟨(ad.add (k * 11)).block, (ad.add (k * 11)).off + 3, none⟩ = some (.int .i64 (S[k]'(by omega)).x.t) ∧
      w.cell? ⟨(ad.add (k * 11)).block, (ad.add (k * 11)).off + 4, none⟩ = some (S[k]'(by omega)).x.a ∧
      w.cell? ⟨(ad.add (k * 11)).block, (ad.add (k * 11)).off + 5, none⟩ = some (.int .i64 (S[k]'(by omega)).x.d.s) ∧
      w.cell? ⟨(ad.add (k * 11)).block, (ad.add (k * 11)).off + 6, none⟩ = some (.int .i64 (S[k]'(by omega)).x.d.n) ∧
      w.cell? ⟨(ad.add (k * 11)).block, (ad.add (k * 11)).off + 7, none⟩ = some (.int .i64 (S[k]'(by omega)).x.d.g) ∧
      w.cell? ⟨(ad.add (k * 11)).block, (ad.add (k * 11)).off + 8, none⟩ = some (.int .i64 (S[k]'(by omega)).x.d.h) ∧
      w.cell? ⟨(ad.add (k * 11)).block, (ad.add (k * 11)).off + 9, none⟩ = some (.bool (S[k]'(by omega)).x.d.p) ∧
      w.cell? ⟨(ad.add (k * 11)).block, (ad.add (k * 11)).off + 10, none⟩ = some (.bool (S[k]'(by omega)).x.d.c) := by
  obtain ⟨ad, rfl, hb, hh⟩ := h.at_ hk
  rw [ops15, part_of Op15.cells 11 (fun _ => rfl) S k (by omega)] at hh
  have hg : ∀ j v, (S[k]'(by omega)).cells[j + 1]? = some v → w.cell? ⟨(ad.add (k * 11)).block, (ad.add (k * 11)).off + (j + 1), none⟩ = some v := by
    intro j v hv
    have h9 := hh (j + 1) v hv
    rw [add_add', add_fld ad (k * 11) (j + 1) (by omega)] at h9
    exact h9
  refine ⟨ad, rfl, by rw [add_blk]; exact hb, ?_, hg 0 _ rfl, hg 1 _ rfl, hg 2 _ rfl, hg 3 _ rfl, hg 4 _ rfl, hg 5 _ rfl, hg 6 _ rfl, hg 7 _ rfl, hg 8 _ rfl, hg 9 _ rfl⟩
  have := hh 0 _ rfl
  rwa [add_add'] at this
/-- what a step of a kind below 3 keeps -/
def StU (bg : Bool) (L W : List (PK × CV)) (F : List (PK × Int)) (D : List RC) (L' W' : List (PK × CV)) (F' : List (PK × Int)) (D' : List RC) : Prop :=
  MatT L' D' ∧ L'.length ≤ L.length + 1 ∧ D'.length ≤ D.length + 1 ∧ (bg = true → ∀ M, BkI M L W F → BkI M L' W' F')
theorem StU.of_put {bg : Bool} {L W L' W' : List (PK × CV)} {F F' : List (PK × Int)} {D D' : List RC} {x : RC} (hM : MatT L D) (h : UpdPut bg x L W F D L' W' F' D') : StU bg L W F D L' W' F' D' := by
  rcases h with ⟨_, rfl, rfl, rfl, rfl⟩ | ⟨_, p, c, hp, hc, rfl, rfl, rfl, rfl⟩
  · exact ⟨hM, Nat.le_succ _, Nat.le_succ _, fun _ _ h => h⟩
  · exact ⟨hM.put hp hc, (put_len L p c).2, by have := putL_len x false D; simpa using this, fun e M h => by subst e; exact h.put p c⟩
theorem StU.of_drop {bg : Bool} {L W L' W' : List (PK × CV)} {F F' : List (PK × Int)} {D D' : List RC} {x : RC} (hM : MatT L D) (hn : (L.map (·.1)).Nodup) (h : UpdDrop bg x L W F D L' W' F' D') : StU bg L W F D L' W' F' D' := by
  rcases h with ⟨rfl, rfl, rfl, rfl⟩ | ⟨p, hp, rfl, rfl, rfl, rfl⟩
  · exact ⟨hM, Nat.le_succ _, Nat.le_succ _, fun _ _ h => h⟩
  · refine ⟨(hM.drop hn hp).1, by have := (del_len L p).2; omega, Nat.le_trans (List.length_filter_le _ _) (Nat.le_succ _), fun e M h => ?_⟩
    subst e
    cases hl : lk L p with
    | some c => exact h.drop hn p
    | none =>
      rw [lk_fk hl]
      exact h
theorem step_q (w X : World) (base tb cb xb : Nat) (wm fm : Option Nat) (bg : Bool) (L W : List (PK × CV)) (F : List (PK × Int)) (v u : Value) (D E : List RC) (b : Bool) (o : Op15) (ho : o.k < 3) (hT : TabG w X tb cb wm fm bg L W F) (hR : RT w X base xb v D u E b) (hx : RCQ w o.x) (hD : D.length ≤ 100000) (hwb : w.heap.size ≤ xb) (hM : MatT L D) :
    Calls Try.prog 23 #[.pointer (some ⟨tb, 0, none⟩), .pointer (some ⟨xb, 0, none⟩), .agg o.cells.toArray] X (StepQ w X base tb cb xb wm fm bg u E b (StU bg L W F D)) := by
  obtain ⟨k, x⟩ := o
  simp only at ho hx
  by_cases h1 : k = 1
  · subst h1
    refine (step_put w X base tb cb xb wm fm bg L W F v u D E b x hT hR hx hD hwb).mono ?_
    rintro e w' ⟨he, L', W', F', v', D', hu, h9⟩
    exact ⟨he, L', W', F', v', D', StU.of_put hM hu, h9⟩
  · by_cases h2 : k = 2
    · subst h2
      refine (step_drop w X base tb cb xb wm fm bg L W F v u D E b x hT hR hx hD hwb hM).mono ?_
      rintro e w' ⟨he, L', W', F', v', D', hu, h9⟩
      exact ⟨he, L', W', F', v', D', StU.of_drop hM hT.ts.nodup hu, h9⟩
    · refine (step_none w X base tb cb xb wm fm bg L W F v u D E b k x hT hR hx (by omega)).mono ?_
      rintro e w' ⟨he, L', W', F', v', D', ⟨rfl, rfl, rfl, rfl⟩, h9⟩
      exact ⟨he, _, _, _, v', _, ⟨hM, Nat.le_succ _, Nat.le_succ _, fun _ _ h => h⟩, h9⟩
theorem lback_g {w0 wx : World} {tb cb : Nat} {wm fm : Option Nat} {L W M : List (PK × CV)} {F : List (PK × Int)} (h : TabG w0 wx tb cb wm fm true L W F) (hM : BkI M L W F) : Calls Try.prog 24 #[.pointer (some ⟨tb, 0, none⟩)] wx fun e w' => e = .returned (.int .i64 0) ∧ ∃ L', SameT L' M ∧ TabG w0 w' tb cb wm fm false L' [] [] ∧ Kt wx w' := by
  refine (cback_any wx _ tb cb wm fm true L W F h.ts).mono ?_
  rintro e w' (⟨h1, _⟩ | ⟨_, rfl, L', h2, h3, h4⟩)
  · cases h1
  · exact ⟨rfl, L', fun q => (h2 q).trans (hM q), ⟨h3, h.after h4⟩, h.ts.kt h4⟩
end Go.Proofs.Ytkobaidamdffmaa
