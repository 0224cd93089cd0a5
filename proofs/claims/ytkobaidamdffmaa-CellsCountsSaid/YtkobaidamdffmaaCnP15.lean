/- CellsCounts: the plain law; Begin, Commit, Encode, Put as a law calls them. -/
import Derived.Test.YtkobaidamdffmaaRc15
import Derived.Test.YtkobaidamdffmaaEnc15
import Derived.Test.YtkobaidamdffmaaCom15
namespace Go.Proofs.Ytkobaidamdffmaa
open Go.RowKit Go.Sort
set_option linter.unusedVariables false
set_option linter.unusedSimpArgs false

theorem TabS.nodup {w : World} {base tb cb : Nat} {wm fm : Option Nat} {bg : Bool} {L W : List (PK × CV)} {F : List (PK × Int)} (h : TabS w base tb cb wm fm bg L W F) : (L.map (·.1)).Nodup := by
  obtain ⟨es, cl, _, _, hnd, _⟩ := h.map
  exact hnd
/-- have they the same cells? -/
def SameT (L M : List (PK × CV)) : Prop := ∀ q, (lk L q).map CV.d = (lk M q).map CV.d
theorem SameT.refl (L : List (PK × CV)) : SameT L L := fun _ => rfl
theorem SameT.trans {L M N : List (PK × CV)} (h : SameT L M) (k : SameT M N) : SameT L N := fun q => (h q).trans (k q)
theorem SameT.symm {L M : List (PK × CV)} (h : SameT L M) : SameT M L := fun q => (h q).symm
theorem mem_isSome (L : List (PK × CV)) (q : PK) : q ∈ L.map (·.1) ↔ (lk L q).isSome = true := by
  constructor
  · intro h
    obtain ⟨u, hu, _⟩ := lk_memE9 h
    rw [hu]
    rfl
  · intro h
    cases hl : lk L q with
    | none => rw [hl] at h; cases h
    | some c => exact List.mem_map_of_mem (f := (·.1)) (lk_mem hl)
theorem SameT.mem {L M : List (PK × CV)} (h : SameT L M) (q : PK) : q ∈ L.map (·.1) ↔ q ∈ M.map (·.1) := by
  rw [mem_isSome, mem_isSome]
  have h9 := congrArg Option.isSome (h q)
  rw [Option.isSome_map, Option.isSome_map] at h9
  rw [h9]
theorem SameT.perm {L M : List (PK × CV)} (h : SameT L M) (hL : (L.map (·.1)).Nodup) (hM : (M.map (·.1)).Nodup) : (L.map (·.1)).Perm (M.map (·.1)) := (List.perm_ext_iff_of_nodup hL hM).2 h.mem
theorem SameT.len {L M : List (PK × CV)} (h : SameT L M) (hL : (L.map (·.1)).Nodup) (hM : (M.map (·.1)).Nodup) : L.length = M.length := by
  have h9 := (h.perm hL hM).length_eq
  simpa using h9
theorem encB_eq {L M : List (PK × CV)} {D E : List PK} (h : SameT L M) (hL : (L.map (·.1)).Nodup) (hM : (M.map (·.1)).Nodup) (hD : D.Perm (L.map (·.1))) (hE : E.Perm (M.map (·.1))) (sD : D.Pairwise leP) (sE : E.Pairwise leP) : encB D L = encB E M := by
  have hDE : D = E := sortedP_eq (hD.trans ((h.perm hL hM).trans hE.symm)) sD sE
  subst hDE
  unfold encB
  congr 1
  rw [List.flatMap_def, List.flatMap_def]
  congr 1
  refine List.map_congr_left fun p hp => ?_
  congr 1
  have h9 := h p
  unfold gv
  cases h1 : lk L p <;> cases h2 : lk M p <;> rw [h1, h2] at h9
  · cases h9
  · cases h9
  · injection h9
/-- the law's invariant -/
structure CntI (L0 L W : List (PK × CV)) : Prop where
  same : SameT L L0
  was : ∀ x ∈ W, (lk L0 x.1).map CV.d = some x.2.d
theorem CntI.start (L : List (PK × CV)) : CntI L L [] := ⟨SameT.refl L, fun x hx => by cases hx⟩
theorem kpW_in {L W : List (PK × CV)} {p : PK} {c : CV} (h : lk L p = some c) : kpW true L W [] p = (if lk W p = none then putM W p c else W) := by
  unfold kpW
  by_cases h1 : lk W p = none
  · rw [if_pos ⟨rfl, h1, rfl⟩, h, if_pos h1]
  · rw [if_neg (fun k => h1 k.2.1), if_neg h1]
theorem kpF_in {L W : List (PK × CV)} {p : PK} {c : CV} (h : lk L p = some c) : kpF true L W [] p = [] := if_neg (fun k => by rw [h] at k; cases k.2.2.2)
theorem kpW_has {L W : List (PK × CV)} {F : List (PK × Int)} {p : PK} {c : CV} (h : lk W p = some c) : kpW true L W F p = W := if_neg (fun k => by rw [h] at k; cases k.2.1)
theorem kpF_has {L W : List (PK × CV)} {F : List (PK × Int)} {p : PK} {c : CV} (h : lk W p = some c) : kpF true L W F p = F := if_neg (fun k => by rw [h] at k; cases k.2.1)
theorem kpW_lk {L W : List (PK × CV)} {p : PK} {c : CV} (h : lk L p = some c) : ∃ u, lk (kpW true L W [] p) p = some u := by
  rw [kpW_in h]
  cases h1 : lk W p with
  | none => exact ⟨c, by rw [if_pos rfl, lk_put, if_pos rfl]⟩
  | some u => exact ⟨u, by rw [if_neg (by simp)]; exact h1⟩
theorem CntI.step {L0 L W : List (PK × CV)} {p : PK} {c c' : CV} (h : CntI L0 L W) (hn : (L.map (·.1)).Nodup) (hp : lk L p = some c) (hc : c'.d = c.d) : CntI L0 (putM (delM L p) p c') (kpW true L W [] p) ∧ (kpW true L W [] p).length ≤ W.length + 1 := by
  refine ⟨⟨fun q => ?_, fun x hx => ?_⟩, ?_⟩
  · rw [lk_put]
    by_cases hq : q = p
    · subst hq
      rw [if_pos rfl, ← h.same q, hp]
      simp [hc]
    · rw [if_neg hq, lk_del hn, if_neg hq]
      exact h.same q
  · rw [kpW_in hp] at hx
    split at hx
    · rcases mem_put hx with h9 | rfl
      · exact h.was x h9
      · rw [← h.same p, hp]
        rfl
    · exact h.was x hx
  · rw [kpW_in hp]
    split
    · exact (put_len W p c).2
    · omega
theorem CntI.count {L0 L W : List (PK × CV)} (h : CntI L0 L W) : cntC L W [] = 0 := by
  unfold cntC
  rw [List.countP_nil, Nat.add_zero, List.countP_eq_zero]
  intro x hx
  have h1 := h.was x hx
  rw [← h.same x.1] at h1
  unfold chg
  cases h2 : lk L x.1 with
  | none => rw [h2] at h1; cases h1
  | some c =>
    rw [h2] at h1
    injection h1 with h1
    simp [h1]

section
variable {w0 w wx wy : World} {tb cb : Nat} {wm fm : Option Nat} {bg : Bool} {L W : List (PK × CV)} {F : List (PK × Int)}
theorem tbk_tb : ∀ k : Nat, k = tb → TBk tb cb wm fm bg k := fun k e => .inl e
theorem lbegin_g (h : TabG w0 wx tb cb wm fm false L W F) : Calls Try.prog 20 #[.pointer (some ⟨tb, 0, none⟩)] wx fun e w' => e = .returned (.int .i64 0) ∧ ∃ wm' fm', TabG w0 w' tb cb wm' fm' true L [] [] ∧ Kt wx w' := by
  refine (cbegin_any wx _ tb cb wm fm false L W F h.ts h.bl.size).mono ?_
  rintro e w' (⟨h1, _⟩ | ⟨_, rfl, wm', fm', h2, h3⟩)
  · cases h1
  · have h4 : Fr (TBk tb cb wm fm false) wx w' := h3.mono (fun k _ e => tbk_tb k e)
    exact ⟨rfl, wm', fm', ⟨h2, h.after h4⟩, h.ts.kt h4⟩
theorem lcommit_g (h : TabG w0 wx tb cb wm fm true L W F) (hW : W.length ≤ 1000000) (hF : F.length ≤ 1000000) : Calls Try.prog 21 #[.pointer (some ⟨tb, 0, none⟩)] wx fun e w' => e = .returned (.tuple #[.int .i64 (cntC L W F), .int .i64 0]) ∧ TabG w0 w' tb cb wm fm false L [] [] ∧ Kt wx w' := by
  refine (ccommit_any wx _ tb cb wm fm true L W F h.ts hW hF).mono ?_
  rintro e w' (⟨h1, _⟩ | ⟨_, rfl, h2, h3⟩)
  · cases h1
  · have h4 : Fr (TBk tb cb wm fm true) wx w' := h3.mono (fun k _ e => tbk_tb k e)
    exact ⟨rfl, ⟨h2, h.after h4⟩, h.ts.kt h4⟩
theorem lput_s (X : World) (B kn kc an ac : Nat) (kA aA : Option Addr) (p : PK) (c : CD) (hr : c.right) (h : TabG w0 X tb cb wm fm bg L W F)
    (hk : Sl X B (.slice kA kn kc) 1 kn (bys p.b)) (hkn : p.b.length = kn) (ha : Own X 0 bT 1 (.slice aA an ac) an (bys c.b)) (han : c.b.length = an) (ha8 : Bytes8 c.b) (hB : B ≤ X.heap.size) :
    Calls Try.prog 10 #[.pointer (some ⟨tb, 0, none⟩), .agg #[.slice kA kn kc, .int .i64 p.f, .int .i64 p.t], .agg #[.slice aA an ac, .int .i64 c.s, .int .i64 c.n, .int .i64 c.g, .int .i64 c.h, .bool c.p, .bool c.c]] X fun e w' => e = .returned (.int .i64 0) ∧ Kt X w' ∧ ∃ c' : CV, c'.d = c ∧ TabG w0 w' tb cb wm fm bg (putM L p c') (kpW bg L W F p) (kpF bg L W F p) := by
  refine (cput_any X w0.heap.size tb cb X.heap.size kn kc an ac wm fm bg L W F kA aA p.b p.f p.t c h.ts (hk.mono hB) hkn p.ok.1 (fun Y hY => ?_) han ha8 (Nat.le_refl _) h.bl.size).mono ?_
  · exact Own.slB ((h.ts.kt hY).own ha (by decide)) (fun g hg => (ha.lt g hg).2)
  · rintro e w3 (⟨hn, rfl, hb⟩ | ⟨hr, rfl, q, hp1, hp2, hp3, c', hc', ht3, hf3⟩)
    · exact absurd ⟨⟨p.ok.2.1, p.ok.2.2⟩, hr⟩ hn
    · have hq : q = p := (PK.eq_iff q p).2 ⟨hp1, hp2, hp3⟩
      subst hq
      exact ⟨rfl, h.ts.kt hf3, c', hc', ht3, h.after hf3⟩
theorem ldrop_s (X : World) (B kn kc : Nat) (kA : Option Addr) (p : PK) (c : CV) (h : TabG w0 X tb cb wm fm bg L W F) (hl : lk L p = some c)
    (hk : Sl X B (.slice kA kn kc) 1 kn (bys p.b)) (hkn : p.b.length = kn) (hB : B ≤ X.heap.size) :
    Calls Try.prog 15 #[.pointer (some ⟨tb, 0, none⟩), .agg #[.slice kA kn kc, .int .i64 p.f, .int .i64 p.t]] X fun e w' => e = .returned (.tuple #[.bool true, .int .i64 0]) ∧ Kt X w' ∧ TabG w0 w' tb cb wm fm bg (delM L p) (kpW bg L W F p) (kpF bg L W F p) := by
  refine (cdrop_any X w0.heap.size tb cb B kn kc wm fm bg L W F kA p.b p.f p.t h.ts hk hkn p.ok.1 hB).mono ?_
  rintro e w3 (⟨hn, rfl, hb⟩ | ⟨q, hp1, hp2, hp3, rfl, ht3, hf3⟩)
  · exact absurd ⟨p.ok.2.1, p.ok.2.2⟩ hn
  · have hq : q = p := (PK.eq_iff q p).2 ⟨hp1, hp2, hp3⟩
    subst hq
    rw [hl] at ht3 ⊢
    exact ⟨rfl, h.ts.kt hf3, ht3, h.after hf3⟩
end
end Go.Proofs.Ytkobaidamdffmaa
