/- Plain laws on panes: which follow one another rightly. -/
import Derived.Test.YtghkkekebjhjlaaRef09
import Derived.Test.YtghkkekebjhjlaaPane
namespace Go.Proofs.Ytghkkekebjhjlaa
set_option linter.unusedVariables false
set_option linter.unusedSimpArgs false

/-- where the line stands behind these panes, if it fires just them -/
def prun : Int → Int → List Inf → Option (Int × Int)
  | n, st, [] => some (n, st)
  | n, st, p :: r => if fok st p.t && decide (p.i = n) then prun (n + 1) (fnext p.t p.l) r else none
/-- how many are right -/
def pgood : Int → Int → List Inf → Nat
  | _, _, [] => 0
  | n, st, p :: r => if fok st p.t && decide (p.i = n) then pgood (n + 1) (fnext p.t p.l) r + 1 else 0

theorem prun_snoc : ∀ (D : List Inf) (n st n' st' : Int) (p : Inf), prun n st D = some (n', st') → prun n st (D ++ [p]) = if fok st' p.t && decide (p.i = n') then some (n' + 1, fnext p.t p.l) else none
  | [], n, st, n', st', p, h => by
    simp [prun] at h ⊢
    obtain ⟨rfl, rfl⟩ := h
    rfl
  | q :: r, n, st, n', st', p, h => by
    simp only [prun, List.cons_append] at h ⊢
    split at h
    · rename_i hq
      rw [if_pos hq]
      exact prun_snoc r _ _ _ _ p h
    · cases h
theorem pgood_app : ∀ (D : List Inf) (n st n' st' : Int) (E : List Inf), prun n st D = some (n', st') → pgood n st (D ++ E) = D.length + pgood n' st' E
  | [], n, st, n', st', E, h => by
    simp [prun] at h ⊢
    obtain ⟨rfl, rfl⟩ := h
    rfl
  | q :: r, n, st, n', st', E, h => by
    simp only [prun, pgood, List.cons_append] at h ⊢
    split at h
    · rename_i hq
      rw [if_pos hq, pgood_app r _ _ _ _ E h, List.length_cons]
      omega
    · cases h
theorem pgood_all (D : List Inf) (n st n' st' : Int) (h : prun n st D = some (n', st')) : pgood n st D = D.length := by
  have := pgood_app D n st n' st' [] h
  simpa [pgood] using this
theorem prun_n : ∀ (D : List Inf) (n st n' st' : Int), prun n st D = some (n', st') → n' = n + D.length
  | [], n, st, n', st', h => by
    simp [prun] at h
    simp [h.1]
  | q :: r, n, st, n', st', h => by
    simp only [prun] at h
    split at h
    · rw [prun_n r _ _ _ _ h, List.length_cons]
      omega
    · cases h
theorem prun_take : ∀ (D : List Inf) (k : Nat) (n st n' st' : Int), prun n st D = some (n', st') → k ≤ D.length → ∃ st'', prun n st (D.take k) = some (n + k, st'')
  | D, 0, n, st, n', st', _, _ => ⟨st, by simp [prun]⟩
  | [], k + 1, n, st, n', st', _, hk => by simp at hk
  | q :: r, k + 1, n, st, n', st', h, hk => by
    simp only [prun, List.take_succ_cons] at h ⊢
    split at h
    · rename_i hq
      obtain ⟨s, hs⟩ := prun_take r k _ _ _ _ h (by simpa using hk)
      refine ⟨s, ?_⟩
      rw [if_pos hq, hs]
      congr 2
      omega
    · cases h
theorem prun_at : ∀ (D : List Inf) (k : Nat) (n st n' st' : Int) (hk : k < D.length), prun n st D = some (n', st') → D[k].i = n + k
  | q :: r, 0, n, st, n', st', hk, h => by
    simp only [prun] at h
    split at h
    · rename_i hq
      simp at hq
      simp [hq.2]
    · cases h
  | q :: r, k + 1, n, st, n', st', hk, h => by
    simp only [prun] at h
    split at h
    · have := prun_at r k _ _ _ _ (by simpa using hk) h
      simp only [List.getElem_cons_succ, this]
      omega
    · cases h

/-- with one left out in the middle just those ahead of it are right -/
theorem pgood_less (D : List Inf) (n' st' : Int) (k : Nat) (h : prun 0 0 D = some (n', st')) (hk : k + 1 < D.length) : pgood 0 0 (D.take k ++ D.drop (k + 1)) = k := by
  obtain ⟨s, hs⟩ := prun_take D k 0 0 n' st' h (by omega)
  rw [pgood_app _ _ _ _ _ _ hs, List.length_take, Nat.min_eq_left (by omega), List.drop_eq_getElem_cons hk, pgood]
  have := prun_at D (k + 1) 0 0 n' st' hk h
  rw [if_neg]
  · omega
  · simp
    intro _
    omega

/-- what a line's stage tells of the panes that it fired -/
structure PInv (D : List Inf) (st : Int) : Prop where
  lo : 0 ≤ st
  hi : st ≤ 3
  last : D.all (fun q => !q.l) = decide (st ≠ 3)
  zero : st = 0 → ∀ q ∈ D, q.t = 0
  nz : st ≠ 0 → st ≠ 3 → ∃ q ∈ D, q.t ≠ 0
theorem PInv.nil : PInv [] 0 := ⟨by omega, by omega, rfl, by simp, by omega⟩
theorem PInv.snoc {D : List Inf} {st : Int} (h : PInv D st) (p : Inf) (hok : fok st p.t = true) : PInv (D ++ [p]) (fnext p.t p.l) := by
  obtain ⟨pi, pt, pl⟩ := p
  simp [fok] at hok
  have h0 := h.lo
  have h1 := h.hi
  refine ⟨?_, ?_, ?_, ?_, ?_⟩
  · cases pl <;> simp [fnext]
    omega
  · cases pl <;> simp [fnext]
    omega
  · rw [List.all_append, h.last]
    cases pl <;> simp [fnext] <;> omega
  · cases pl <;> simp [fnext]
    intro he
    subst he
    have hs : st = 0 := by omega
    intro q hq
    rcases hq with hq | rfl
    · exact h.zero hs q hq
    · rfl
  · cases pl <;> simp [fnext]
    intro hne _
    exact .inr hne
theorem fol_fok {D : List Inf} {st : Int} (h : PInv D st) (p : Inf) (hi : p.i = D.length) : fol D p = fok st p.t := by
  obtain ⟨pi, pt, pl⟩ := p
  simp only at hi
  have h0 := h.lo
  have h1 := h.hi
  have hl := h.last
  by_cases h3 : st = 3
  · have hbad : D.all (fun q => !q.l) = false := by rw [hl]; simp [h3]
    rw [List.all_eq_false] at hbad
    obtain ⟨q, hq, hql⟩ := hbad
    have h4 : D.all (fol1 ⟨pi, pt, pl⟩) = false := by
      rw [List.all_eq_false]
      exact ⟨q, hq, by simp [fol1]; intro h; simp [h] at hql⟩
    simp [fol, h4, fok, h3]
  · have hg : D.all (fun q => !q.l) = true := by rw [hl]; simp [h3]
    rw [List.all_eq_true] at hg
    have e : D.all (fol1 ⟨pi, pt, pl⟩) = D.all (fun q => (!(pt == 0) || q.t == 0) && (!(pt == 1) || q.t == 0)) := by
      rw [Bool.eq_iff_iff, List.all_eq_true, List.all_eq_true]
      constructor
      · intro hh q hq
        have := hh q hq
        simp [fol1] at this ⊢
        exact ⟨this.1.2, this.2⟩
      · intro hh q hq
        have := hh q hq
        have h5 := hg q hq
        simp [fol1] at this h5 ⊢
        exact ⟨⟨h5, this.1⟩, this.2⟩
    rw [fol, e]
    by_cases h2 : pt = 2
    · subst h2
      simp [fok, hi, h3]
    · by_cases h01 : pt = 0 ∨ pt = 1
      · have hr : (decide (pi = D.length ∧ 0 ≤ pt ∧ pt ≤ 2)) = true := by simp; omega
        rw [hr, Bool.true_and]
        by_cases hs : st = 0
        · have : D.all (fun q => (!(pt == 0) || q.t == 0) && (!(pt == 1) || q.t == 0)) = true := by
            rw [List.all_eq_true]
            intro q hq
            simp [h.zero hs q hq]
          rw [this]
          simp [fok, hs, h01]
        · obtain ⟨q, hq, hqt⟩ := h.nz hs h3
          have : D.all (fun q => (!(pt == 0) || q.t == 0) && (!(pt == 1) || q.t == 0)) = false := by
            rw [List.all_eq_false]
            refine ⟨q, hq, ?_⟩
            rcases h01 with rfl | rfl <;> simp [hqt]
          rw [this]
          simp [fok, hs, h2]
      · have : (decide (pi = D.length ∧ 0 ≤ pt ∧ pt ≤ 2)) = false := by
          simp
          omega
        rw [this, Bool.false_and]
        simp [fok, h2]
        intro h6
        omega
theorem fol_bad (D : List Inf) (p : Inf) (hi : p.i ≠ D.length) : fol D p = false := fol_no D p (fun h => hi h.1)
theorem stg_snoc (D : List Inf) (p : Inf) : stg (D ++ [p]) = stg1 (stg D) p := by
  rw [stg, stg, List.foldl_append]
  rfl
theorem stg_step {st : Int} (h0 : 0 ≤ st) (h3 : st ≤ 3) (p : Inf) (hok : fok st p.t = true) : stg1 st p = fnext p.t p.l := by
  obtain ⟨pi, pt, pl⟩ := p
  simp [fok] at hok
  cases pl <;> simp [stg1, fnext]
  omega

end Go.Proofs.Ytghkkekebjhjlaa
