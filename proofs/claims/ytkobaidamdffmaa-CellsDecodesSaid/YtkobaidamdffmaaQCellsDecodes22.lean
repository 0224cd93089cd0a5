/- maps.Copy at cells; cells.Table: Back (printed by genbk15.py). / A table's keys and the reference's list, place by place: plain. / The reference's num, flag, Encode (printed by genre15.py). -/
import Derived.Test.YtkobaidamdffmaaQCellsDecodes18
import Derived.Test.YtkobaidamdffmaaQCellsDecodes21

namespace Go.Proofs.Ytkobaidamdffmaa
open Go.RowKit Go.Sort
set_option linter.unusedVariables false
set_option linter.unusedSimpArgs false

section
variable {β : Type}
theorem mem_lk {L : List (PK × β)} (hn : (L.map (·.1)).Nodup) {q : PK} {c : β} (h : (q, c) ∈ L) : lk L q = some c := by
  induction L with
  | nil => cases h
  | cons x L ih =>
    obtain ⟨p, u⟩ := x
    rw [List.map_cons, List.nodup_cons] at hn
    unfold lk
    rcases List.mem_cons.1 h with h1 | h1
    · injection h1 with h1 h2
      rw [if_pos h1, h2]
    · rw [if_neg (fun e => hn.1 (by rw [← e]; exact List.mem_map_of_mem (f := (·.1)) h1))]
      exact ih hn.2 h1
theorem lk_perm {L M : List (PK × β)} (h : L.Perm M) (hn : (L.map (·.1)).Nodup) (q : PK) : lk L q = lk M q := by
  have hm : (M.map (·.1)).Nodup := (h.map _).nodup_iff.1 hn
  cases h1 : lk L q with
  | some c => exact (mem_lk hm (h.mem_iff.1 (lk_mem h1))).symm
  | none =>
    cases h2 : lk M q with
    | none => rfl
    | some c => rw [mem_lk hn (h.mem_iff.2 (lk_mem h2))] at h1; cases h1
theorem lk_some_iff (L : List (PK × β)) (q : PK) : (lk L q).isSome = true ↔ q ∈ L.map (·.1) := by
  induction L with
  | nil => simp [lk]
  | cons x L ih =>
    obtain ⟨p, u⟩ := x
    unfold lk
    by_cases h : q = p
    · simp [h]
    · rw [if_neg h, ih]
      simp [h]
end
def foldP (D L : List (PK × CV)) : List (PK × CV) := D.foldl (fun L x => putM L x.1 x.2) L
def foldD (D : List (PK × Int)) (L : List (PK × CV)) : List (PK × CV) := D.foldl (fun L x => delM L x.1) L
theorem foldP_snoc (D L : List (PK × CV)) (x : PK × CV) : foldP (D ++ [x]) L = putM (foldP D L) x.1 x.2 := by unfold foldP; rw [List.foldl_append]; rfl
theorem foldD_snoc (D : List (PK × Int)) (L : List (PK × CV)) (x : PK × Int) : foldD (D ++ [x]) L = delM (foldD D L) x.1 := by unfold foldD; rw [List.foldl_append]; rfl
theorem lk_foldP : ∀ (D L : List (PK × CV)), (D.map (·.1)).Nodup → ∀ q, lk (foldP D L) q = match lk D q with | some c => some c | none => lk L q
  | [], L, _, q => rfl
  | (p, c) :: D, L, hn, q => by
    rw [List.map_cons, List.nodup_cons] at hn
    show lk (foldP D (putM L p c)) q = _
    rw [lk_foldP D _ hn.2 q]
    by_cases h : q = p
    · subst h
      have h1 : lk D q = none := by
        cases h2 : lk D q with
        | none => rfl
        | some u => exact absurd (List.mem_map_of_mem (f := (·.1)) (lk_mem h2)) hn.1
      rw [h1, lk_put, if_pos rfl]
      show _ = match (if q = q then some c else lk D q) with | some c => some c | none => lk L q
      rw [if_pos rfl]
    · have h1 : lk ((p, c) :: D) q = lk D q := if_neg h
      rw [h1, lk_put, if_neg h]
theorem foldP_mem : ∀ (D L : List (PK × CV)) (x : PK × CV), x ∈ foldP D L → x ∈ D ∨ x ∈ L
  | [], L, x, h => .inr h
  | (p, c) :: D, L, x, h => by
    rcases foldP_mem D (putM L p c) x h with h1 | h1
    · exact .inl (List.mem_cons_of_mem _ h1)
    · rcases mem_put h1 with h2 | h2
      · exact .inr h2
      · exact .inl (by rw [h2]; exact List.mem_cons_self)
theorem delM_mem {L : List (PK × CV)} {p : PK} {x : PK × CV} (h : x ∈ delM L p) : x ∈ L := by
  induction L with
  | nil => simp [delM] at h
  | cons y L ih =>
    unfold delM at h
    split at h
    · exact List.mem_cons_of_mem _ h
    · rcases List.mem_cons.1 h with h1 | h1
      · rw [h1]; exact List.mem_cons_self
      · exact List.mem_cons_of_mem _ (ih h1)
theorem foldD_mem : ∀ (D : List (PK × Int)) (L : List (PK × CV)) (x : PK × CV), x ∈ foldD D L → x ∈ L
  | [], L, x, h => h
  | y :: D, L, x, h => delM_mem (foldD_mem D (delM L y.1) x h)
theorem lk_foldD : ∀ (D : List (PK × Int)) (L : List (PK × CV)), (L.map (·.1)).Nodup → ∀ q, lk (foldD D L) q = if q ∈ D.map (·.1) then none else lk L q
  | [], L, _, q => by simp [foldD]
  | y :: D, L, hn, q => by
    show lk (foldD D (delM L y.1)) q = _
    rw [lk_foldD D _ (nodup_del hn y.1) q, lk_del hn, List.map_cons]
    by_cases h1 : q ∈ D.map (·.1)
    · rw [if_pos h1, if_pos (List.mem_cons_of_mem _ h1)]
    · rw [if_neg h1]
      by_cases h2 : q = y.1
      · rw [if_pos h2, if_pos (by rw [h2]; exact List.mem_cons_self)]
      · rw [if_neg h2, if_neg (fun h => by rcases List.mem_cons.1 h with h | h; exact h2 h; exact h1 h)]
theorem back_lk {L W D' : List (PK × CV)} {F D : List (PK × Int)} (hL : (L.map (·.1)).Nodup) (hW : (W.map (·.1)).Nodup) (hD' : W.Perm D') (hD : F.Perm D) (q : PK) : (lk (foldP D' (foldD D L)) q).map CV.d = backM L W F q := by
  have hn : (D'.map (·.1)).Nodup := (hD'.map _).nodup_iff.1 hW
  rw [lk_foldP D' _ hn q, ← lk_perm hD' hW q]
  unfold backM
  cases h1 : lk W q with
  | some c => rfl
  | none =>
    simp only
    rw [lk_foldD D L hL q]
    by_cases h2 : q ∈ D.map (·.1)
    · rw [if_pos h2, if_pos ((lk_some_iff F q).2 ((hD.map (·.1)).mem_iff.2 h2))]
      rfl
    · rw [if_neg h2, if_neg (fun h => h2 ((hD.map (·.1)).mem_iff.1 ((lk_some_iff F q).1 h)))]

set_option maxRecDepth 100000 in
set_option maxHeartbeats 4000000 in
theorem mcopy_any (w : World) (cb wb : Nat) (L W : List (PK × CV)) (hL : MapR w cb plV cvV L) (hW : MapR w wb plV cvV W) (hne : cb ≠ wb) (hv : ∀ p ∈ W, ∃ A n k, p.2.v = .slice A n k) :
    Calls Try.prog 47 #[.map (some cb), .map (some wb)] w fun e w' => e = .returned (.tuple #[]) ∧ ∃ D', W.Perm D' ∧ MapR w' cb plV cvV (foldP D' L) ∧ Fr (fun j => j = cb) w w' := by
  have HML := hide hL
  have HMW := hide hW
  have HV := hide hv
  have HNE : Hid (cb ≠ wb) := hne
  have hcl := hL.lt
  have hwl := hW.lt
  clear hL hW hv hne
  go_enter Try.func47, Try.ntmps47
  go_wp2_with (at_range; refine wpList_range_it rfl _ rfl cmU rfl HMW.out ?_; intro ob hI0)
  go_frame
  have HI0 : Hid (ItR (w.alloc ob) wb w.heap.size plV cvV W [] ∧ MapR (w.alloc ob) cb plV cvV (foldP [] L) ∧ Fr (fun j => j = cb) w (w.alloc ob)) := ⟨hI0, HML.out.below ((Below.refl _ _).alloc (Nat.le_refl _) _) hcl, Fr.of_below ((Below.refl _ _).alloc (Nat.le_refl _) _)⟩
  clear hI0
  go_loopw [4] (fun _ wr => ∃ (D : List (PK × CV)), Hid (ItR wr wb w.heap.size plV cvV W D ∧ MapR wr cb plV cvV (foldP D L) ∧ Fr (fun j => j = cb) w wr)) (fun _ wr => itLeft wr wb w.heap.size)
  case atStart => exact ⟨[], HI0.out⟩
  case round =>
  clear HI0
  obtain ⟨D, HI⟩ := hrel
  go_wp2_with (at_next; refine wpList_next_it' rfl _ rfl rfl HI.out.1 ?_ ?_)
  · intro hp
    have HP := hide hp
    clear hp
    go_wp2_with fail
    go_end0
    exact ⟨rfl, D, HP.out, HI.out.2⟩
  · intro w2 kv vv hst
    obtain ⟨pc, hkv, hvv, hp, hI2, hlt, hf2, hsz, hen⟩ := hst
    obtain ⟨cA, cn, cc, hvs⟩ := HV.out pc hp
    obtain ⟨p, ⟨cv, ⟨cD, cs, ci, cg, ch, cp, cq⟩⟩⟩ := pc
    simp only at hvs
    subst hvs
    have hkv2 : kv = .agg #[.string (strOfNums p.b), .int .i64 p.f, .int .i64 p.t] := hkv
    have hvv2 : vv = .agg #[.slice cA cn cc, .int .i64 cs, .int .i64 ci, .int .i64 cg, .int .i64 ch, .bool cp, .bool cq] := hvv
    clear hkv hvv hp
    subst hkv2 hvv2
    have HPV : Hid (plV p = .agg #[.string (strOfNums p.b), .int .i64 p.f, .int .i64 p.t]) := rfl
    have hne2 := HI.out.1.ne_map HI.out.2.1
    have HM2 : Hid (MapR w2 cb plV cvV (foldP D L)) := HI.out.2.1.fr hf2 (fun e => hne2 e.symm)
    have HF2 : Hid (Fr (fun j => j = cb) w w2) := HI.out.2.2.trans hf2 (fun k hk e => by omega)
    have HI2 := hide hI2
    have HLT : Hid (D.length < W.length) := hlt
    have hr2 : w.heap.size ≠ cb := hne2
    have h2l := HM2.out.lt
    have hb3 : Below w2.heap.size w2 ((w2.alloc (.cells #[.string (strOfNums p.b), .int .i64 p.f, .int .i64 p.t] plT)).alloc (.cells #[.slice cA cn cc, .int .i64 cs, .int .i64 ci, .int .i64 cg, .int .i64 ch, .bool cp, .bool cq] cvT)) := ((Below.refl _ _).alloc (Nat.le_refl _) _).alloc (by simp) _
    obtain ⟨w4, hr, hm4, hf4, _⟩ := (HM2.out.below hb3 h2l).upd plW cmU p (⟨.slice cA cn cc, ⟨cD, cs, ci, cg, ch, cp, cq⟩⟩ : CV) (P := Try.prog)
    rw [HPV.out] at hr
    have hr' : (Instr.mapUpdate cmT (.map (some cb)) (.agg #[.string (strOfNums p.b), .int .i64 p.f, .int .i64 p.t]) (.agg #[.slice cA cn cc, .int .i64 cs, .int .i64 ci, .int .i64 cg, .int .i64 ch, .bool cp, .bool cq])).run Try.prog ((w2.alloc (.cells #[.string (strOfNums p.b), .int .i64 p.f, .int .i64 p.t] plT)).alloc (.cells #[.slice cA cn cc, .int .i64 cs, .int .i64 ci, .int .i64 cg, .int .i64 ch, .bool cp, .bool cq] cvT)) = .ok () w4 := hr
    have HI4 : Hid (ItR w4 wb w.heap.size plV cvV W (D ++ [(p, (⟨.slice cA cn cc, ⟨cD, cs, ci, cg, ch, cp, cq⟩⟩ : CV))]) ∧ MapR w4 cb plV cvV (foldP (D ++ [(p, (⟨.slice cA cn cc, ⟨cD, cs, ci, cg, ch, cp, cq⟩⟩ : CV))]) L) ∧ Fr (fun j => j = cb) w w4) := by
      refine ⟨(HI2.out.below hb3 HI2.out.lt.1 HI2.out.lt.2).fr hf4 (fun e => HNE.out e.symm) (fun e => hr2 e), ?_, ?_⟩
      · rw [foldP_snoc]; exact hm4
      · exact (HF2.out.trans (Fr.of_below hb3) (fun k _ h => h)).trans hf4 (fun _ _ h => h)
    have HL : Hid (itLeft w4 wb w.heap.size < itLeft wr wb w.heap.size) := by
      rw [Hid, HI4.out.1.left_eq, HI.out.1.left_eq, List.length_append]
      have := HLT.out
      simp only [List.length_cons, List.length_nil]
      omega
    generalize strOfNums p.b = ps at *
    generalize p.f = pf at *
    generalize p.t = pt at *
    clear hr hm4 hf4 hb3 hI2 hf2 hsz hlt HM2 HF2 HPV HI HI2
    go_wp2_with fail
    go_roundw
    case rel => exact ⟨_, HI4.out⟩
    case measure => exact HL.out

/-- behind Back -/
def BackP (w : World) (base tb cb : Nat) (wm fm : Option Nat) (bg : Bool) (L W : List (PK × CV)) (F : List (PK × Int)) (e : Ending) (w' : World) : Prop :=
  (bg = false ∧ e = .returned (.int .i64 171) ∧ Below w.heap.size w w') ∨
  (bg = true ∧ e = .returned (.int .i64 0) ∧ ∃ L', (∀ q, (lk L' q).map CV.d = backM L W F q) ∧ TabS w' base tb cb wm fm false L' [] [] ∧ Fr (TBk tb cb wm fm bg) w w')
set_option maxRecDepth 100000 in
set_option maxHeartbeats 8000000 in
theorem cback_any (w : World) (base tb cb : Nat) (wm fm : Option Nat) (bg : Bool) (L W : List (PK × CV)) (F : List (PK × Int)) (h : TabS w base tb cb wm fm bg L W F) :
    Calls Try.prog 24 #[.pointer (some ⟨tb, 0, none⟩)] w (BackP w base tb cb wm fm bg L W F) := by
  obtain ⟨t0, t1, t2, t3, htl⟩ := h.open
  have HT := hide h
  cases bg with
  | false =>
    clear h
    go_enter Try.func24, Try.ntmps24
    go_wp2_with fail
    go_ret
    exact .inl ⟨rfl, rfl, Below.refl _ _⟩
  | true =>
    obtain ⟨wb, fb, rfl, rfl, hbeg⟩ := h.beg rfl
    have HMF := hide hbeg.fm
    have HNE := hide hbeg.ne
    have HWN : Hid ((W.map (·.1)).Nodup) := by obtain ⟨_, _, _, _, hnd, _⟩ := hbeg.wm; exact hnd
    have HWV : Hid (∀ p ∈ W, ∃ A n k, p.2.v = .slice A n k) := fun p hp => by
      obtain ⟨A, c, h9, _⟩ := (hbeg.acc p hp).1.sl.form
      exact ⟨A, _, c, h9⟩
    have hfl := hbeg.fm.lt
    clear h hbeg
    go_enter Try.func24, Try.ntmps24
    go_wp2_with (at_range; refine wpList_range_it rfl _ rfl fmU rfl HMF.out ?_; intro ob hI0)
    go_frame
    have HI0 : Hid (ItR (w.alloc ob) fb w.heap.size plV intV F [] ∧ TabS (w.alloc ob) base tb cb (some wb) (some fb) true (foldD [] L) W F ∧ Fr (fun j => j = cb) w (w.alloc ob)) := ⟨hI0, HT.out.below ((Below.refl _ _).alloc (Nat.le_refl _) _), Fr.of_below ((Below.refl _ _).alloc (Nat.le_refl _) _)⟩
    clear hI0 t0 t1 t2 t3
    go_loopw [3] (fun _ wr => ∃ (D : List (PK × Int)), Hid (ItR wr fb w.heap.size plV intV F D ∧ TabS wr base tb cb (some wb) (some fb) true (foldD D L) W F ∧ Fr (fun j => j = cb) w wr)) (fun _ wr => itLeft wr fb w.heap.size)
    case atStart => exact ⟨[], HI0.out⟩
    case round =>
    clear HI0
    obtain ⟨D, HI⟩ := hrel
    go_wp2_with (at_next; refine wpList_next_it' rfl _ rfl rfl HI.out.1 ?_ ?_)
    · intro hp
      have HP := hide hp
      have HTR := hide HI.out.2.1
      have HFR := hide HI.out.2.2
      clear hp HI
      have HCP : Hid (∀ Y : World, Below wr.heap.size wr Y → Calls Try.prog 47 #[.map (some cb), .map (some wb)] Y fun e w' => e = .returned (.tuple #[]) ∧ ∃ D', W.Perm D' ∧ TabS w' base tb cb (some wb) (some fb) true (foldP D' (foldD D L)) W F ∧ Fr (fun j => j = cb) w w') := fun Y hY => by
        have hTY := HTR.out.below hY
        obtain ⟨wb', fb', e1, e2, h3⟩ := hTY.beg rfl
        injection e1 with e1
        injection e2 with e2
        subst e1 e2
        refine (mcopy_any Y cb wb (foldD D L) W hTY.map h3.wm HNE.out.1 HWV.out).mono ?_
        rintro e w' ⟨rfl, D', hd, hm, hf⟩
        refine ⟨rfl, D', hd, hTY.recell hf hm (fun x hx => ?_), (HFR.out.trans (Fr.of_below hY) (fun k _ h => h)).trans hf (fun _ _ h => h)⟩
        rcases foldP_mem D' _ x hx with h9 | h9
        · exact h3.acc x (hd.mem_iff.2 h9)
        · exact hTY.acc x h9
      obtain ⟨t0, t1, t2, t3, _⟩ := HTR.out.open
      have HS : Hid (wr.cell? ⟨tb, 0, none⟩ = some (.map (some cb)) ∧ wr.cell? ⟨tb, 1, none⟩ = some (.map (some wb))) := ⟨t0, t1⟩
      have HSD : Hid (wr.drew.cell? ⟨tb, 0, none⟩ = some (.map (some cb)) ∧ wr.drew.cell? ⟨tb, 1, none⟩ = some (.map (some wb))) := ⟨t0, t1⟩
      have HRD : Hid (Below wr.heap.size wr wr.drew) := (Below.refl _ _).drewN 1
      have htr := HTR.out.blk.lt
      clear t2 t3
      go_wp2_with fail
      go_region_held3 (fun X : World => X.cell? ⟨tb, 0, none⟩ = some (.map (some cb)) ∧ X.cell? ⟨tb, 1, none⟩ = some (.map (some wb))) (first | with_reducible exact HS.out | with_reducible exact HSD.out | exact ⟨ht9.blk.cell 0, ht9.blk.cell 1⟩) (first
        | (go_at_call 47; have hc := HCP.out _ HRD.out; refine Calls.mono hc ?_; clear hc; rintro e w9 ⟨rfl, D', hd9, ht9, hf9⟩))
      all_goals
        have HT9 := hide ht9
        have HF9 := hide hf9
        have HD9 := hide hd9
        clear ht9 hf9 hd9 t0 t1 HS HSD HRD HCP HTR HFR htr
        obtain ⟨t0, t1, t2, t3, _⟩ := HT9.out.open
        have htz := HT9.out.blk.lt
        have y3 := HT9.out.blk.frozen 3
        go_wp2_with fail
        go_ret
        refine .inr ⟨rfl, rfl, foldP D' (foldD D L), back_lk HT.out.nodup HWN.out HD9.out HP.out, HT9.out.unbegin.1, ?_⟩
        exact (Fr.mono (T := TBk tb cb (some wb) (some fb) true) HF9.out (fun k _ e => .inr (.inl e))).trans (Fr.mono (T := TBk tb cb (some wb) (some fb) true) HT9.out.unbegin.2 (fun k _ e => .inl e)) (fun _ _ h => h)
    · intro w2 kv vv hst
      obtain ⟨pc, hkv, hvv, hp, hI2, hlt, hf2, hsz, hen⟩ := hst
      obtain ⟨p, z⟩ := pc
      have hkv2 : kv = .agg #[.string (strOfNums p.b), .int .i64 p.f, .int .i64 p.t] := hkv
      have hvv2 : vv = .int .i64 z := hvv
      clear hkv hvv hp
      subst hkv2 hvv2
      have HPV : Hid (plV p = .agg #[.string (strOfNums p.b), .int .i64 p.f, .int .i64 p.t]) := rfl
      have hnm := HI.out.1.ne_map HI.out.2.1.map
      have HT2 : Hid (TabS w2 base tb cb (some wb) (some fb) true (foldD D L) W F) := HI.out.2.1.fr hf2 (fun j hj e => by
        have h9 := (HT.out.lows j hj).2
        omega) (fun g cs hb e => (HI.out.1.ne_blk hb).2 e.symm)
      have HF2 : Hid (Fr (fun j => j = cb) w w2) := HI.out.2.2.trans hf2 (fun k hk e => by omega)
      have HI2 := hide hI2
      have HLT : Hid (D.length < F.length) := hlt
      obtain ⟨ps, hps⟩ : ∃ ps, ps = strOfNums p.b := ⟨_, rfl⟩
      obtain ⟨pf, hpf⟩ : ∃ pf, pf = p.f := ⟨_, rfl⟩
      obtain ⟨pt, hpt⟩ : ∃ pt, pt = p.t := ⟨_, rfl⟩
      rw [← hps, ← hpf, ← hpt] at HPV hen ⊢
      clear hps hpf hpt hf2 hsz hlt hI2
      go_upto_region 6 with fail
      have hb3 : Below w2.heap.size w2 (w2.alloc (.cells #[.string ps, .int .i64 pf, .int .i64 pt] plT)) := (Below.refl _ _).alloc (Nat.le_refl _) _
      have HT3 := hide (HT2.out.below hb3)
      have HF3 : Hid (Fr (fun j => j = cb) w (w2.alloc (.cells #[.string ps, .int .i64 pf, .int .i64 pt] plT))) := HF2.out.trans (Fr.of_below hb3) (fun k _ h => h)
      have HI3 := hide (HI2.out.below hb3 HI2.out.lt.1 HI2.out.lt.2)
      have HPB : Hid (Blk (w2.alloc (.cells #[.string ps, .int .i64 pf, .int .i64 pt] plT)) w2.heap.size plT #[.string ps, .int .i64 pf, .int .i64 pt]) := Blk.new w2 _ _
      change Code.wp _ _ _ _ (w2.alloc (.cells #[.string ps, .int .i64 pf, .int .i64 pt] plT))
      clear hb3 hen
      generalize (w2.alloc (.cells #[.string ps, .int .i64 pf, .int .i64 pt] plT)) = w3 at *
      generalize w2.heap.size = pb at *
      have hTD := HT3.out.below ((Below.refl w3.heap.size w3).drewN 1)
      obtain ⟨w8, hr, hm8, hf8, _⟩ := hTD.map.del plW cmU p (P := Try.prog) (ty := 0)
      have hr' : (Builtin.delete_ #[cmT, plT] 0 #[.map (some cb), .agg #[.string ps, .int .i64 pf, .int .i64 pt]]).run Try.prog w3.drew = .ok (.tuple #[]) w8 := by rw [← HPV.out]; exact hr
      have HT8 : Hid (TabS w8 base tb cb (some wb) (some fb) true (foldD (D ++ [(p, z)]) L) W F) := by
        rw [foldD_snoc]
        exact hTD.recell hf8 hm8 (fun x hx => hTD.acc x (delM_mem hx))
      have hf8' : Fr (fun j => j = cb) w3 w8 := hf8.drew0
      have HI8 : Hid (ItR w8 fb w.heap.size plV intV F (D ++ [(p, z)])) := HI3.out.fr hf8' (fun e => HNE.out.2.1 e.symm) (fun e => hnm e)
      have HF8 : Hid (Fr (fun j => j = cb) w w8) := HF3.out.trans hf8' (fun _ _ h => h)
      have hP8 := hf8'.blk HPB.out (fun e => by have h9 := HT3.out.map.ne_blk HPB.out; exact h9 e.symm)
      have t0 : w3.cell? ⟨tb, 0, none⟩ = some (.map (some cb)) := HT3.out.blk.cell 0
      have p0 : w3.cell? ⟨pb, 0, none⟩ = some (.string ps) := HPB.out.cell 0
      have p1 : w3.cell? ⟨pb, 1, none⟩ = some (.int .i64 pf) := HPB.out.cell 1
      have p2 : w3.cell? ⟨pb, 2, none⟩ = some (.int .i64 pt) := HPB.out.cell 2
      have HS6 : Hid ((fun X : World => X.cell? ⟨tb, 0, none⟩ = some (.map (some cb)) ∧ X.cell? ⟨pb, 0, none⟩ = some (.string ps) ∧ X.cell? ⟨pb, 1, none⟩ = some (.int .i64 pf) ∧ X.cell? ⟨pb, 2, none⟩ = some (.int .i64 pt)) w3) := ⟨t0, p0, p1, p2⟩
      have HSD : Hid ((fun X : World => X.cell? ⟨tb, 0, none⟩ = some (.map (some cb)) ∧ X.cell? ⟨pb, 0, none⟩ = some (.string ps) ∧ X.cell? ⟨pb, 1, none⟩ = some (.int .i64 pf) ∧ X.cell? ⟨pb, 2, none⟩ = some (.int .i64 pt)) w3.drew) := ⟨t0, p0, p1, p2⟩
      have HS8 : Hid ((fun X : World => X.cell? ⟨tb, 0, none⟩ = some (.map (some cb)) ∧ X.cell? ⟨pb, 0, none⟩ = some (.string ps) ∧ X.cell? ⟨pb, 1, none⟩ = some (.int .i64 pf) ∧ X.cell? ⟨pb, 2, none⟩ = some (.int .i64 pt)) w8) := ⟨HT8.out.blk.cell 0, hP8.cell 0, hP8.cell 1, hP8.cell 2⟩
      have HL : Hid (itLeft w8 fb w.heap.size < itLeft wr fb w.heap.size) := by
        rw [Hid, HI8.out.left_eq, HI.out.1.left_eq, List.length_append]
        have := HLT.out
        simp only [List.length_cons, List.length_nil]
        omega
      clear hTD hr hm8 hf8 hf8' hP8 HT3 HF3 HI3 HT2 HF2 HI2 HI
      have htl3 := HPB.out.lt
      go_region_held3 (fun X : World => X.cell? ⟨tb, 0, none⟩ = some (.map (some cb)) ∧ X.cell? ⟨pb, 0, none⟩ = some (.string ps) ∧ X.cell? ⟨pb, 1, none⟩ = some (.int .i64 pf) ∧ X.cell? ⟨pb, 2, none⟩ = some (.int .i64 pt)) (first | with_reducible exact HS6.out | with_reducible exact HSD.out | with_reducible exact HS8.out) (fail)
      all_goals
        clear HS6 HSD HS8 t0 p0 p1 p2 HPB htl3
        go_wp2_with fail
        go_roundw
        case rel => exact ⟨_, HI8.out, HT8.out, HF8.out⟩
        case measure => exact HL.out
end Go.Proofs.Ytkobaidamdffmaa

namespace Go.Proofs.Ytkobaidamdffmaa
open Go.RowKit Go.Sort
set_option linter.unusedVariables false
set_option linter.unusedSimpArgs false

theorem has_uniq {x : RC} {p q : PK} (h : x.has p) (k : x.has q) : p = q := (PK.eq_iff p q).2 ⟨h.1.trans k.1.symm, h.2.1.trans k.2.1.symm, h.2.2.trans k.2.2.symm⟩
theorem has_lt {x y : RC} {p q : PK} (h : x.has p) (k : y.has q) : ordR x y < 0 ↔ ltP p q := by
  rw [ordR_neg]
  unfold ltP PK.win
  rw [h.1, h.2.1, h.2.2, k.1, k.2.1, k.2.2]
/-- the keys of the list -/
theorem MatT.keys {L : List (PK × CV)} {D : List RC} (h : MatT L D) (hn : (L.map (·.1)).Nodup) :
    ∃ P : List PK, ∃ hl : P.length = D.length, (∀ i (h1 : i < D.length), (D[i]).has (P[i]'(by omega)) ∧ (lk L (P[i]'(by omega))).map CV.d = some (D[i]).d) ∧ P.Perm (L.map (·.1)) ∧ P.Pairwise leP := by
  let f : {x // x ∈ D} → PK := fun x => Classical.choose (h.fwd x.1 x.2)
  have hf : ∀ x, x.1.has (f x) ∧ (lk L (f x)).map CV.d = some x.1.d := fun x => Classical.choose_spec (h.fwd x.1 x.2)
  have hlen : (D.attach.map f).length = D.length := by simp
  have hat : ∀ i (h1 : i < D.length), (D[i]).has ((D.attach.map f)[i]'(by omega)) ∧ (lk L ((D.attach.map f)[i]'(by omega))).map CV.d = some (D[i]).d := fun i h1 => by
    have h9 := hf ⟨D[i], List.getElem_mem h1⟩
    have h8 : (D.attach.map f)[i]'(by omega) = f ⟨D[i], List.getElem_mem h1⟩ := by simp
    rw [h8]
    exact h9
  obtain ⟨P, hlen, hat⟩ : ∃ P : List PK, ∃ hl : P.length = D.length, ∀ i (h1 : i < D.length), (D[i]).has (P[i]'(by omega)) ∧ (lk L (P[i]'(by omega))).map CV.d = some (D[i]).d := ⟨_, hlen, hat⟩
  have hlt : P.Pairwise ltP := by
    rw [List.pairwise_iff_getElem]
    intro i j hi hj hij
    have h9 := (List.pairwise_iff_getElem.1 h.so) i j (by omega) (by omega) hij
    exact (has_lt (hat i (by omega)).1 (hat j (by omega)).1).1 h9
  refine ⟨P, hlen, hat, ?_, hlt.imp (fun hab hba => ltP_irr _ (ltP_trans hab hba))⟩
  refine (List.perm_ext_iff_of_nodup (hlt.imp (fun hab e => by rw [e] at hab; exact ltP_irr _ hab)) hn).2 fun q => ?_
  constructor
  · intro hq
    obtain ⟨i, hi, rfl⟩ := List.getElem_of_mem hq
    have h9 := (hat i (by omega)).2
    rw [← lk_some_iff]
    cases hl : lk L P[i] with
    | some c => rfl
    | none => rw [hl] at h9; cases h9
  · intro hq
    obtain ⟨c, hc, _⟩ := lk_memE9 hq
    obtain ⟨x, hx, hxq⟩ := h.bwd q c hc
    obtain ⟨i, hi, rfl⟩ := List.getElem_of_mem hx
    have h9 := has_uniq hxq (hat i hi).1
    rw [h9]
    exact List.getElem_mem _
theorem MatT.row {L : List (PK × CV)} {D : List RC} {O : List KV} (h : MatT L D) (hn : (L.map (·.1)).Nodup) (hpm : (O.map KV.p).Perm (L.map (·.1))) (hso : (O.map KV.p).Pairwise leP) :
    D.length = O.length ∧ (∀ i (h1 : i < D.length) (h2 : i < O.length), (D[i]).has (O[i]).p ∧ ∃ c, lk L (O[i]).p = some c ∧ c.d = (D[i]).d) ∧ holdL (cds L) = holdL (D.map RC.d) := by
  obtain ⟨P, hl, hat, hp, hs⟩ := h.keys hn
  have hPO : P = O.map KV.p := sortedP_eq (hp.trans hpm.symm) hs hso
  subst hPO
  have hl2 : O.length = D.length := by simpa using hl
  refine ⟨hl2.symm, fun i h1 h2 => ?_, ?_⟩
  · have h9 := hat i h1
    simp only [List.getElem_map] at h9
    refine ⟨h9.1, ?_⟩
    cases hc : lk L (O[i]).p with
    | none => rw [hc] at h9; cases h9.2
    | some c =>
      rw [hc] at h9
      refine ⟨c, rfl, ?_⟩
      have h8 := h9.2
      injection h8
  · have e1 : cds L = (L.map (·.1)).map (fun q => (gv (lk L q)).d) := by
      rw [List.map_map]
      unfold cds
      refine List.map_congr_left fun x hx => ?_
      show x.2.d = (gv (lk L x.1)).d
      rw [mem_lk hn hx]
      rfl
    have e2 : D.map RC.d = (O.map KV.p).map (fun q => (gv (lk L q)).d) := by
      refine List.ext_getElem (by simp [hl2]) fun i h1 h2 => ?_
      simp only [List.getElem_map]
      have h9 := hat i (by simpa using h1)
      simp only [List.getElem_map] at h9
      cases hc : lk L (O[i]'(by simpa using h2)).p with
      | none => rw [hc] at h9; cases h9.2
      | some c =>
        rw [hc] at h9
        have h8 := h9.2
        injection h8 with h8
        exact h8.symm
    rw [e1, e2]
    exact (holdL_perm (hpm.map _)).symm
end Go.Proofs.Ytkobaidamdffmaa

namespace Go.Proofs.Ytkobaidamdffmaa
open Go.RowKit Go.Sort
set_option linter.unusedVariables false
set_option linter.unusedSimpArgs false

set_option maxRecDepth 100000 in
set_option maxHeartbeats 4000000 in
theorem num_any (n : Int) (c : Nat) (w : World) (hn : 0 ≤ n ∧ n < 9223372036854775808) (hc : c ≤ 8) :
    Calls Try.prog 59 #[.int .i64 n, .int .i64 c] w fun e w' => ∃ v, e = .returned v ∧ Own w' w.heap.size bT 1 v c (bys (beN n c)) ∧ Below w.heap.size w w' := by
  go_enter Try.func59, Try.ntmps59
  go_wp2_with fail
  go_loopw [0, 5, 6] (fun q o i wr => ∃ (k : Nat) (z : Int), k ≤ c ∧ i = .int .i64 k ∧ q = .int .i64 z ∧ 0 ≤ z ∧ z < 9223372036854775808 ∧ Hid (z = n / 256 ^ k) ∧ Hid (Own wr w.heap.size bT 1 o k (bys (beN n k)) ∧ Below w.heap.size w wr)) (fun _ _ i _ => c - (intOf i).toNat)
  case atStart => exact ⟨0, n, Nat.zero_le _, rfl, rfl, hn.1, hn.2, by simp [Hid], Own.nil _ _ _ _, Below.refl _ _⟩
  case round =>
  obtain ⟨k, z, hk, rfl, rfl, hz1, hz2, HZ, HI⟩ := hrel
  obtain ⟨uA, uc, rfl, huc⟩ := HI.out.1.sl.form
  by_cases hlt : k < c
  · have HSO : Hid (∀ W : World, w.heap.size ≤ W.heap.size → Own (W.alloc (.cells #[.int .u8 (z % 256)] bT)) w.heap.size bT 1 (.slice (some ⟨W.heap.size, 0, none⟩) 1 1) 1 (bys [z % 256])) := fun W hW =>
      (Own.new (n := 1) (sz := 1) (e := bT) (base := w.heap.size) W #[.int .u8 (z % 256)] hW (by omega) rfl)
    have hzr := HI.out.2.size
    have HSL : Hid (∀ cs, Sl (wr.alloc (.cells cs bT)) (wr.heap.size + 1) (.slice uA k uc) 1 k (bys (beN n k))) := fun cs => ((HI.out.1.alloc (.cells cs bT)).sl).mono (by simp)
    go_wp2_with (at_builtin; refine wpList_app rfl tyB (.tmp 15) (.tmp 16) rfl w.heap.size (n := 1) (m := k) (B := wr.heap.size + 1) (xs := bys [z % 256]) (news := bys (beN n k)) rfl rfl (by exact HSO.out wr hzr) (by exact HSL.out _) (bys_ok _) (by omega) (by omega) (by simp; omega) ?_)
    intro v5 w5 ha5
    have HB5 : Hid (Below w.heap.size w (wr.alloc (.cells #[.int .u8 (z % 256)] bT))) := HI.out.2.alloc hzr _
    have HI5 : Hid (Own w5 w.heap.size bT 1 v5 (k + 1) (bys (beN n (k + 1))) ∧ Below w.heap.size w w5) := by
      refine ⟨?_, HB5.out.trans (ha5.fr.below HB5.out.size (fun j hj e => by have := ((HSO.out wr hzr).lt j e).1; omega))⟩
      have h9 := ha5.own
      rw [← bys_app, Nat.add_comm 1 k] at h9
      have h8 : [z % 256] ++ beN n k = beN n (k + 1) := by rw [beN, ← HZ.out]; rfl
      rw [h8] at h9
      exact h9
    have HZ5 : Hid (z / 256 = n / 256 ^ (k + 1)) := by
      show _ = _
      have hp : (0 : Int) < 256 ^ k := Int.pow_pos (by omega)
      rw [HZ.out, Int.pow_succ, Int.ediv_ediv, if_neg (fun h => by omega), Int.sub_zero]
    clear ha5 HSO HSL HI HB5 HZ
    go_wp2_with fail
    go_roundw
    case rel => exact ⟨k + 1, z / 256, by omega, by simp, by first | rfl | simp, by omega, by omega, HZ5, HI5.out⟩
    case measure => simp [intOf]; omega
  · have hkc : k = c := by omega
    subst hkc
    go_wp2_with fail
    go_ret
    exact ⟨_, rfl, HI.out.1, HI.out.2⟩
theorem flag_any (b : Bool) (X : World) : Calls Try.prog 60 #[.bool b] X fun e w' => e = .returned (.int .u8 (if b then 1 else 0)) ∧ Below X.heap.size X w' := by
  cases b
  · go_enter Try.func60, Try.ntmps60
    go_wp2_with fail
    go_ret
    exact ⟨rfl, Below.refl _ _⟩
  · go_enter Try.func60, Try.ntmps60
    go_wp2_with fail
    go_ret
    exact ⟨rfl, Below.refl _ _⟩
end Go.Proofs.Ytkobaidamdffmaa
