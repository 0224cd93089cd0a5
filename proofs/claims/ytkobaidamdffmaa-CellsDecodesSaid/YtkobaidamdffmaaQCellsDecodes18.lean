/- CellsCounts: the plain law; Begin, Commit, Encode, Put as a law calls them. / The table and the reference's list: the plain law of Put and Drop. -/
import Derived.Test.YtkobaidamdffmaaQCellsDecodes15
import Derived.Test.YtkobaidamdffmaaQCellsDecodes10
import Derived.Test.YtkobaidamdffmaaQCellsDecodes17
import Derived.Test.YtkobaidamdffmaaQCellsDecodes16

namespace Go.Proofs.Ytkobaidamdffmaa
open Go.RowKit Go.Sort
set_option linter.unusedVariables false
set_option linter.unusedSimpArgs false

theorem TabS.nodup {w : World} {base tb cb : Nat} {wm fm : Option Nat} {bg : Bool} {L W : List (PK × CV)} {F : List (PK × Int)} (h : TabS w base tb cb wm fm bg L W F) : (L.map (·.1)).Nodup := by
  obtain ⟨es, cl, _, _, hnd, _⟩ := h.map
  exact hnd
/-- have they the same cells? -/
def SameT (L M : List (PK × CV)) : Prop := ∀ q, (lk L q).map CV.d = (lk M q).map CV.d
theorem SameT.refl (L : List (PK × CV)) : SameT L L := fun _ => rfl
theorem SameT.trans {L M N : List (PK × CV)} (h : SameT L M) (k : SameT M N) : SameT L N := fun q => (h q).trans (k q)
theorem SameT.symm {L M : List (PK × CV)} (h : SameT L M) : SameT M L := fun q => (h q).symm
theorem mem_isSome (L : List (PK × CV)) (q : PK) : q ∈ L.map (·.1) ↔ (lk L q).isSome = true := by
  constructor
  · intro h
    obtain ⟨u, hu, _⟩ := lk_memE9 h
    rw [hu]
    rfl
  · intro h
    cases hl : lk L q with
    | none => rw [hl] at h; cases h
    | some c => exact List.mem_map_of_mem (f := (·.1)) (lk_mem hl)
theorem SameT.mem {L M : List (PK × CV)} (h : SameT L M) (q : PK) : q ∈ L.map (·.1) ↔ q ∈ M.map (·.1) := by
  rw [mem_isSome, mem_isSome]
  have h9 := congrArg Option.isSome (h q)
  rw [Option.isSome_map, Option.isSome_map] at h9
  rw [h9]
theorem SameT.perm {L M : List (PK × CV)} (h : SameT L M) (hL : (L.map (·.1)).Nodup) (hM : (M.map (·.1)).Nodup) : (L.map (·.1)).Perm (M.map (·.1)) := (List.perm_ext_iff_of_nodup hL hM).2 h.mem
theorem SameT.len {L M : List (PK × CV)} (h : SameT L M) (hL : (L.map (·.1)).Nodup) (hM : (M.map (·.1)).Nodup) : L.length = M.length := by
  have h9 := (h.perm hL hM).length_eq
  simpa using h9
theorem encB_eq {L M : List (PK × CV)} {D E : List PK} (h : SameT L M) (hL : (L.map (·.1)).Nodup) (hM : (M.map (·.1)).Nodup) (hD : D.Perm (L.map (·.1))) (hE : E.Perm (M.map (·.1))) (sD : D.Pairwise leP) (sE : E.Pairwise leP) : encB D L = encB E M := by
  have hDE : D = E := sortedP_eq (hD.trans ((h.perm hL hM).trans hE.symm)) sD sE
  subst hDE
  unfold encB
  congr 1
  rw [List.flatMap_def, List.flatMap_def]
  congr 1
  refine List.map_congr_left fun p hp => ?_
  congr 1
  have h9 := h p
  unfold gv
  cases h1 : lk L p <;> cases h2 : lk M p <;> rw [h1, h2] at h9
  · cases h9
  · cases h9
  · injection h9
/-- the law's invariant -/
structure CntI (L0 L W : List (PK × CV)) : Prop where
  same : SameT L L0
  was : ∀ x ∈ W, (lk L0 x.1).map CV.d = some x.2.d
theorem CntI.start (L : List (PK × CV)) : CntI L L [] := ⟨SameT.refl L, fun x hx => by cases hx⟩
theorem kpW_in {L W : List (PK × CV)} {p : PK} {c : CV} (h : lk L p = some c) : kpW true L W [] p = (if lk W p = none then putM W p c else W) := by
  unfold kpW
  by_cases h1 : lk W p = none
  · rw [if_pos ⟨rfl, h1, rfl⟩, h, if_pos h1]
  · rw [if_neg (fun k => h1 k.2.1), if_neg h1]
theorem kpF_in {L W : List (PK × CV)} {p : PK} {c : CV} (h : lk L p = some c) : kpF true L W [] p = [] := if_neg (fun k => by rw [h] at k; cases k.2.2.2)
theorem kpW_has {L W : List (PK × CV)} {F : List (PK × Int)} {p : PK} {c : CV} (h : lk W p = some c) : kpW true L W F p = W := if_neg (fun k => by rw [h] at k; cases k.2.1)
theorem kpF_has {L W : List (PK × CV)} {F : List (PK × Int)} {p : PK} {c : CV} (h : lk W p = some c) : kpF true L W F p = F := if_neg (fun k => by rw [h] at k; cases k.2.1)
theorem kpW_lk {L W : List (PK × CV)} {p : PK} {c : CV} (h : lk L p = some c) : ∃ u, lk (kpW true L W [] p) p = some u := by
  rw [kpW_in h]
  cases h1 : lk W p with
  | none => exact ⟨c, by rw [if_pos rfl, lk_put, if_pos rfl]⟩
  | some u => exact ⟨u, by rw [if_neg (by simp)]; exact h1⟩
theorem CntI.step {L0 L W : List (PK × CV)} {p : PK} {c c' : CV} (h : CntI L0 L W) (hn : (L.map (·.1)).Nodup) (hp : lk L p = some c) (hc : c'.d = c.d) : CntI L0 (putM (delM L p) p c') (kpW true L W [] p) ∧ (kpW true L W [] p).length ≤ W.length + 1 := by
  refine ⟨⟨fun q => ?_, fun x hx => ?_⟩, ?_⟩
  · rw [lk_put]
    by_cases hq : q = p
    · subst hq
      rw [if_pos rfl, ← h.same q, hp]
      simp [hc]
    · rw [if_neg hq, lk_del hn, if_neg hq]
      exact h.same q
  · rw [kpW_in hp] at hx
    split at hx
    · rcases mem_put hx with h9 | rfl
      · exact h.was x h9
      · rw [← h.same p, hp]
        rfl
    · exact h.was x hx
  · rw [kpW_in hp]
    split
    · exact (put_len W p c).2
    · omega
theorem CntI.count {L0 L W : List (PK × CV)} (h : CntI L0 L W) : cntC L W [] = 0 := by
  unfold cntC
  rw [List.countP_nil, Nat.add_zero, List.countP_eq_zero]
  intro x hx
  have h1 := h.was x hx
  rw [← h.same x.1] at h1
  unfold chg
  cases h2 : lk L x.1 with
  | none => rw [h2] at h1; cases h1
  | some c =>
    rw [h2] at h1
    injection h1 with h1
    simp [h1]

section
variable {w0 w wx wy : World} {tb cb : Nat} {wm fm : Option Nat} {bg : Bool} {L W : List (PK × CV)} {F : List (PK × Int)}
theorem tbk_tb : ∀ k : Nat, k = tb → TBk tb cb wm fm bg k := fun k e => .inl e
theorem lbegin_g (h : TabG w0 wx tb cb wm fm false L W F) : Calls Try.prog 20 #[.pointer (some ⟨tb, 0, none⟩)] wx fun e w' => e = .returned (.int .i64 0) ∧ ∃ wm' fm', TabG w0 w' tb cb wm' fm' true L [] [] ∧ Kt wx w' := by
  refine (cbegin_any wx _ tb cb wm fm false L W F h.ts h.bl.size).mono ?_
  rintro e w' (⟨h1, _⟩ | ⟨_, rfl, wm', fm', h2, h3⟩)
  · cases h1
  · have h4 : Fr (TBk tb cb wm fm false) wx w' := h3.mono (fun k _ e => tbk_tb k e)
    exact ⟨rfl, wm', fm', ⟨h2, h.after h4⟩, h.ts.kt h4⟩
theorem lcommit_g (h : TabG w0 wx tb cb wm fm true L W F) (hW : W.length ≤ 1000000) (hF : F.length ≤ 1000000) : Calls Try.prog 21 #[.pointer (some ⟨tb, 0, none⟩)] wx fun e w' => e = .returned (.tuple #[.int .i64 (cntC L W F), .int .i64 0]) ∧ TabG w0 w' tb cb wm fm false L [] [] ∧ Kt wx w' := by
  refine (ccommit_any wx _ tb cb wm fm true L W F h.ts hW hF).mono ?_
  rintro e w' (⟨h1, _⟩ | ⟨_, rfl, h2, h3⟩)
  · cases h1
  · have h4 : Fr (TBk tb cb wm fm true) wx w' := h3.mono (fun k _ e => tbk_tb k e)
    exact ⟨rfl, ⟨h2, h.after h4⟩, h.ts.kt h4⟩
theorem lput_s (X : World) (B kn kc an ac : Nat) (kA aA : Option Addr) (p : PK) (c : CD) (hr : c.right) (h : TabG w0 X tb cb wm fm bg L W F)
    (hk : Sl X B (.slice kA kn kc) 1 kn (bys p.b)) (hkn : p.b.length = kn) (ha : Own X 0 bT 1 (.slice aA an ac) an (bys c.b)) (han : c.b.length = an) (ha8 : Bytes8 c.b) (hB : B ≤ X.heap.size) :
    Calls Try.prog 10 #[.pointer (some ⟨tb, 0, none⟩), .agg #[.slice kA kn kc, .int .i64 p.f, .int .i64 p.t], .agg #[.slice aA an ac, .int .i64 c.s, .int .i64 c.n, .int .i64 c.g, .int .i64 c.h, .bool c.p, .bool c.c]] X fun e w' => e = .returned (.int .i64 0) ∧ Kt X w' ∧ ∃ c' : CV, c'.d = c ∧ TabG w0 w' tb cb wm fm bg (putM L p c') (kpW bg L W F p) (kpF bg L W F p) := by
  refine (cput_any X w0.heap.size tb cb X.heap.size kn kc an ac wm fm bg L W F kA aA p.b p.f p.t c h.ts (hk.mono hB) hkn p.ok.1 (fun Y hY => ?_) han ha8 (Nat.le_refl _) h.bl.size).mono ?_
  · exact Own.slB ((h.ts.kt hY).own ha (by decide)) (fun g hg => (ha.lt g hg).2)
  · rintro e w3 (⟨hn, rfl, hb⟩ | ⟨hr, rfl, q, hp1, hp2, hp3, c', hc', -, ht3, hf3⟩)
    · exact absurd ⟨⟨p.ok.2.1, p.ok.2.2⟩, hr⟩ hn
    · have hq : q = p := (PK.eq_iff q p).2 ⟨hp1, hp2, hp3⟩
      subst hq
      exact ⟨rfl, h.ts.kt hf3, c', hc', ht3, h.after hf3⟩
theorem ldrop_s (X : World) (B kn kc : Nat) (kA : Option Addr) (p : PK) (c : CV) (h : TabG w0 X tb cb wm fm bg L W F) (hl : lk L p = some c)
    (hk : Sl X B (.slice kA kn kc) 1 kn (bys p.b)) (hkn : p.b.length = kn) (hB : B ≤ X.heap.size) :
    Calls Try.prog 15 #[.pointer (some ⟨tb, 0, none⟩), .agg #[.slice kA kn kc, .int .i64 p.f, .int .i64 p.t]] X fun e w' => e = .returned (.tuple #[.bool true, .int .i64 0]) ∧ Kt X w' ∧ TabG w0 w' tb cb wm fm bg (delM L p) (kpW bg L W F p) (kpF bg L W F p) := by
  refine (cdrop_any X w0.heap.size tb cb B kn kc wm fm bg L W F kA p.b p.f p.t h.ts hk hkn p.ok.1 hB).mono ?_
  rintro e w3 (⟨hn, rfl, hb⟩ | ⟨q, hp1, hp2, hp3, rfl, ht3, hf3⟩)
  · exact absurd ⟨p.ok.2.1, p.ok.2.2⟩ hn
  · have hq : q = p := (PK.eq_iff q p).2 ⟨hp1, hp2, hp3⟩
    subst hq
    rw [hl] at ht3 ⊢
    exact ⟨rfl, h.ts.kt hf3, ht3, h.after hf3⟩
end
end Go.Proofs.Ytkobaidamdffmaa

namespace Go.Proofs.Ytkobaidamdffmaa
open Go.RowKit Go.Sort
set_option linter.unusedVariables false
set_option linter.unusedSimpArgs false

theorem ordR_zero (x y : RC) : ordR x y = 0 ↔ (x.f = y.f ∧ x.t = y.t) ∧ x.kb = y.kb := by
  unfold ordR
  rw [ordC_zero, Win.mk.injEq]
theorem ordR_neg (x y : RC) : ordR x y < 0 ↔ wlt ⟨x.f, x.t⟩ ⟨y.f, y.t⟩ ∨ ((⟨x.f, x.t⟩ : Win) = ⟨y.f, y.t⟩ ∧ cmpB x.kb y.kb < 0) := by
  unfold ordR ordC
  by_cases h : (⟨x.f, x.t⟩ : Win) = ⟨y.f, y.t⟩
  · rw [if_pos h, (bytesR_sign _ _).1]
    constructor
    · exact fun k => .inr ⟨h, k⟩
    · rintro (k | ⟨_, k⟩)
      · rw [h] at k; exact absurd k (wlt_irr _)
      · exact k
  · rw [if_neg h]
    by_cases k : wlt ⟨x.f, x.t⟩ ⟨y.f, y.t⟩
    · rw [if_pos k]
      exact ⟨fun _ => .inl k, fun _ => by omega⟩
    · rw [if_neg k]
      constructor
      · intro h9; omega
      · rintro (h9 | ⟨h9, _⟩)
        · exact absurd h9 k
        · exact absurd h9 h
theorem ordR_trans {x y z : RC} (h : ordR x y < 0) (k : ordR y z < 0) : ordR x z < 0 := by
  rw [ordR_neg] at *
  rcases h with h | ⟨h, h2⟩
  · rcases k with k | ⟨k, _⟩
    · exact .inl (wlt_trans h k)
    · exact .inl (by rw [← k]; exact h)
  · rcases k with k | ⟨k, k2⟩
    · exact .inl (by rw [h]; exact k)
    · exact .inr ⟨h.trans k, cmpB_trans _ _ _ h2 k2⟩
theorem ordR_flip {x y : RC} (h : ordR x y ≠ 0) (k : ¬ ordR x y < 0) : ordR y x < 0 := by
  rw [ordR_neg] at *
  rcases wlt_tri ⟨x.f, x.t⟩ ⟨y.f, y.t⟩ with h1 | h1 | h1
  · exact absurd (.inl h1) k
  · refine .inr ⟨h1.symm, ?_⟩
    have h2 : ¬ cmpB x.kb y.kb < 0 := fun h9 => k (.inr ⟨h1, h9⟩)
    have h3 : cmpB x.kb y.kb ≠ 0 := fun h9 => h ((ordR_zero x y).2 ⟨by injection h1 with h7 h8; exact ⟨h7, h8⟩, (cmpB_zero _ _).1 h9⟩)
    rw [cmpB_anti]
    omega
  · exact .inl h1
theorem ordR_irr {x y : RC} (h : ordR x y < 0) : ¬ ordR y x = 0 := by
  intro k
  rw [ordR_zero] at k
  have h9 : ordR x y = 0 := (ordR_zero x y).2 ⟨⟨k.1.1.symm, k.1.2.symm⟩, k.2.symm⟩
  omega
theorem ordR_sym0 {x y : RC} : ordR x y = 0 ↔ ordR y x = 0 := by
  rw [ordR_zero, ordR_zero]
  constructor
  · exact fun h => ⟨⟨h.1.1.symm, h.1.2.symm⟩, h.2.symm⟩
  · exact fun h => ⟨⟨h.1.1.symm, h.1.2.symm⟩, h.2.symm⟩
def SortR (D : List RC) : Prop := D.Pairwise fun x y => ordR x y < 0
theorem putL_true (x : RC) : ∀ D, putL x true D = D.filter fun y => decide (ordR x y ≠ 0)
  | [] => rfl
  | y :: D => by
    unfold putL
    rw [putL_true x D, List.filter_cons]
    by_cases h : ordR x y = 0 <;> simp [h]
theorem putL_iff (x : RC) : ∀ (D : List RC) (z : RC), z ∈ putL x false D ↔ z = x ∨ (z ∈ D ∧ ordR x z ≠ 0)
  | [], z => by simp [putL]
  | y :: D, z => by
    unfold putL
    by_cases h : ordR x y = 0
    · rw [if_pos h, putL_iff x D z]
      constructor
      · rintro (h1 | ⟨h1, h2⟩)
        · exact .inl h1
        · exact .inr ⟨List.mem_cons_of_mem _ h1, h2⟩
      · rintro (h1 | ⟨h1, h2⟩)
        · exact .inl h1
        · rcases List.mem_cons.1 h1 with h3 | h3
          · rw [h3] at h2; exact absurd h h2
          · exact .inr ⟨h3, h2⟩
    · rw [if_neg h]
      by_cases k : ordR x y < 0
      · rw [if_pos ⟨k, rfl⟩, putL_true]
        simp only [List.mem_cons, List.mem_filter, decide_eq_true_eq]
        constructor
        · rintro (h1 | h1 | ⟨h1, h2⟩)
          · exact .inl h1
          · exact .inr ⟨.inl h1, by rw [h1]; exact h⟩
          · exact .inr ⟨.inr h1, h2⟩
        · rintro (h1 | ⟨h1 | h1, h2⟩)
          · exact .inl h1
          · exact .inr (.inl h1)
          · exact .inr (.inr ⟨h1, h2⟩)
      · rw [if_neg (fun h9 => k h9.1), List.mem_cons, putL_iff x D z]
        simp only [List.mem_cons]
        constructor
        · rintro (h1 | h1 | ⟨h1, h2⟩)
          · exact .inr ⟨.inl h1, by rw [h1]; exact h⟩
          · exact .inl h1
          · exact .inr ⟨.inr h1, h2⟩
        · rintro (h1 | ⟨h1 | h1, h2⟩)
          · exact .inr (.inl h1)
          · exact .inl h1
          · exact .inr (.inr ⟨h1, h2⟩)
theorem putL_sort (x : RC) : ∀ (D : List RC), SortR D → SortR (putL x false D)
  | [], _ => by simp [putL, SortR]
  | y :: D, hs => by
    have h1 := List.pairwise_cons.1 hs
    unfold putL
    by_cases h : ordR x y = 0
    · rw [if_pos h]
      exact putL_sort x D h1.2
    · rw [if_neg h]
      by_cases k : ordR x y < 0
      · rw [if_pos ⟨k, rfl⟩, putL_true]
        refine List.pairwise_cons.2 ⟨fun z hz => ?_, List.pairwise_cons.2 ⟨fun z hz => h1.1 z (List.mem_filter.1 hz).1, h1.2.sublist List.filter_sublist⟩⟩
        rcases List.mem_cons.1 hz with h9 | h9
        · rw [h9]; exact k
        · exact ordR_trans k (h1.1 z (List.mem_filter.1 h9).1)
      · rw [if_neg (fun h9 => k h9.1)]
        refine List.pairwise_cons.2 ⟨fun z hz => ?_, putL_sort x D h1.2⟩
        rcases (putL_iff x D z).1 hz with h9 | h9
        · rw [h9]; exact ordR_flip h k
        · exact h1.1 z h9.1
/-- of the key -/
def RC.has (x : RC) (p : PK) : Prop := p.b = x.kb ∧ p.f = x.f ∧ p.t = x.t
theorem has_zero {x y : RC} {p q : PK} (hx : x.has p) (hy : y.has q) : ordR x y = 0 ↔ p = q := by
  rw [ordR_zero, PK.eq_iff, hx.1, hx.2.1, hx.2.2, hy.1, hy.2.1, hy.2.2]
  constructor
  · exact fun h => ⟨h.2, h.1.1, h.1.2⟩
  · exact fun h => ⟨⟨h.2.1, h.2.2⟩, h.1⟩
/-- the reference's list has the table's cells, in order -/
structure MatT (L : List (PK × CV)) (D : List RC) : Prop where
  so : SortR D
  fwd : ∀ x ∈ D, ∃ p : PK, x.has p ∧ (lk L p).map CV.d = some x.d
  bwd : ∀ p c, lk L p = some c → ∃ x ∈ D, x.has p
theorem MatT.nil : MatT [] [] := ⟨List.Pairwise.nil, (fun x hx => by cases hx), (fun p c h => by cases h)⟩
theorem MatT.put {L : List (PK × CV)} {D : List RC} (h : MatT L D) {x : RC} {p : PK} {c : CV} (hx : x.has p) (hc : c.d = x.d) : MatT (putM L p c) (putL x false D) := by
  refine ⟨putL_sort x D h.so, fun z hz => ?_, fun q c' hq => ?_⟩
  · rcases (putL_iff x D z).1 hz with rfl | ⟨h1, h2⟩
    · exact ⟨p, hx, by rw [lk_put, if_pos rfl]; simp [hc]⟩
    · obtain ⟨q, hq, hl⟩ := h.fwd z h1
      refine ⟨q, hq, ?_⟩
      rw [lk_put, if_neg (fun e => h2 ((has_zero hx hq).2 e.symm))]
      exact hl
  · rw [lk_put] at hq
    by_cases he : q = p
    · exact ⟨x, (putL_iff x D x).2 (.inl rfl), by rw [he]; exact hx⟩
    · rw [if_neg he] at hq
      obtain ⟨z, hz, hzq⟩ := h.bwd q c' hq
      exact ⟨z, (putL_iff x D z).2 (.inr ⟨hz, fun e => he ((has_zero hx hzq).1 e).symm⟩), hzq⟩
theorem MatT.drop {L : List (PK × CV)} {D : List RC} (h : MatT L D) (hn : (L.map (·.1)).Nodup) {x : RC} {p : PK} (hx : x.has p) : MatT (delM L p) (dropL x D) ∧ (decide ((dropL x D).length < D.length) = (lk L p).isSome) := by
  have hm : ∀ z, z ∈ dropL x D ↔ z ∈ D ∧ ordR z x ≠ 0 := fun z => by unfold dropL; rw [List.mem_filter, decide_eq_true_eq]
  refine ⟨⟨h.so.sublist List.filter_sublist, fun z hz => ?_, fun q c' hq => ?_⟩, ?_⟩
  · obtain ⟨h1, h2⟩ := (hm z).1 hz
    obtain ⟨q, hq, hl⟩ := h.fwd z h1
    refine ⟨q, hq, ?_⟩
    rw [lk_del hn, if_neg (fun e => h2 ((has_zero hq hx).2 e))]
    exact hl
  · rw [lk_del hn] at hq
    by_cases he : q = p
    · rw [if_pos he] at hq; cases hq
    · rw [if_neg he] at hq
      obtain ⟨z, hz, hzq⟩ := h.bwd q c' hq
      exact ⟨z, (hm z).2 ⟨hz, fun e => he ((has_zero hzq hx).1 e)⟩, hzq⟩
  · cases hl : lk L p with
    | some c =>
      obtain ⟨z, hz, hzp⟩ := h.bwd p c hl
      have h0 : ordR z x = 0 := (has_zero hzp hx).2 rfl
      simp only [Option.isSome_some, decide_eq_true_eq]
      unfold dropL
      exact List.length_filter_lt_length_iff_exists.2 ⟨z, hz, by simp [h0]⟩
    | none =>
      simp only [Option.isSome_none, decide_eq_false_iff_not]
      have h0 : dropL x D = D := by
        unfold dropL
        rw [List.filter_eq_self]
        intro z hz
        rw [decide_eq_true_eq]
        intro e
        obtain ⟨q, hq, hd⟩ := h.fwd z hz
        rw [(has_zero hq hx).1 e, hl] at hd
        cases hd
      rw [h0]
      omega
/-- what Back gives back -/
def backM (L W : List (PK × CV)) (F : List (PK × Int)) (q : PK) : Option CD := match lk W q with | some c => some c.d | none => if (lk F q).isSome then none else (lk L q).map CV.d
/-- what was is noted -/
def BkI (M L W : List (PK × CV)) (F : List (PK × Int)) : Prop := ∀ q, backM L W F q = (lk M q).map CV.d
theorem BkI.start (L : List (PK × CV)) : BkI L L [] [] := fun q => rfl
theorem backM_keep {L L' W : List (PK × CV)} {F : List (PK × Int)} {p : PK} (hL : ∀ q, q ≠ p → lk L' q = lk L q) (q : PK) : backM L' (kpW true L W F p) (kpF true L W F p) q = backM L W F q := by
  by_cases h1 : lk W p = none ∧ lk F p = none
  · cases h2 : lk L p with
    | some c =>
      have e1 : kpW true L W F p = putM W p c := by unfold kpW; rw [if_pos ⟨rfl, h1.1, h1.2⟩, h2]
      have e2 : kpF true L W F p = F := by unfold kpF; exact if_neg (fun h => by rw [h2] at h; cases h.2.2.2)
      rw [e1, e2]
      unfold backM
      by_cases hq : q = p
      · subst hq
        rw [lk_put, if_pos rfl, h1.1, h1.2, h2]
        rfl
      · rw [lk_put, if_neg hq, hL q hq]
    | none =>
      have e1 : kpW true L W F p = W := by unfold kpW; rw [if_pos ⟨rfl, h1.1, h1.2⟩, h2]
      have e2 : kpF true L W F p = putM F p 1 := by unfold kpF; exact if_pos ⟨rfl, h1.1, h1.2, h2⟩
      rw [e1, e2]
      unfold backM
      by_cases hq : q = p
      · subst hq
        rw [lk_put, if_pos rfl, h1.1, h1.2, h2]
        rfl
      · rw [lk_put, if_neg hq, hL q hq]
  · have e1 : kpW true L W F p = W := by unfold kpW; exact if_neg (fun h => h1 ⟨h.2.1, h.2.2⟩)
    have e2 : kpF true L W F p = F := by unfold kpF; exact if_neg (fun h => h1 ⟨h.2.1, h.2.2.1⟩)
    rw [e1, e2]
    unfold backM
    by_cases hq : q = p
    · subst hq
      cases h2 : lk W q with
      | some c => rfl
      | none =>
        cases h3 : lk F q with
        | some c => rfl
        | none => exact absurd ⟨h2, h3⟩ h1
    · rw [hL q hq]
theorem BkI.put {M L W : List (PK × CV)} {F : List (PK × Int)} (h : BkI M L W F) (p : PK) (c : CV) : BkI M (putM L p c) (kpW true L W F p) (kpF true L W F p) := fun q => by
  rw [backM_keep (L := L) (fun r hr => by rw [lk_put, if_neg hr])]
  exact h q
theorem BkI.drop {M L W : List (PK × CV)} {F : List (PK × Int)} (h : BkI M L W F) (hn : (L.map (·.1)).Nodup) (p : PK) : BkI M (delM L p) (kpW true L W F p) (kpF true L W F p) := fun q => by
  rw [backM_keep (L := L) (fun r hr => by rw [lk_del hn, if_neg hr])]
  exact h q
end Go.Proofs.Ytkobaidamdffmaa
