/- The plain law of sessions. -/
import Derived.Test.YtbnppocaeflghaaDoorMergeP
namespace Go.Proofs.YtbnppocaeflghaaDoor
open Go.RowKit
set_option linter.unusedVariables false
set_option linter.unusedSimpArgs false

def mkW (g t : Int) : Win := ⟨t, t + g⟩
abbrev Asc (l : List Int) : Prop := l.Pairwise (fun a b => a ≤ b)
theorem ins_asc {l : List Int} {q : Nat} {t : Int} (hl : Asc l) (hq : q ≤ l.length) (hgt : ∀ x ∈ l.drop q, t < x) (hle : ∀ h : 0 < q, l[q - 1]'(by omega) ≤ t) : Asc (l.take q ++ t :: l.drop q) := by
  have h1 : Asc (l.take q ++ l.drop q) := by rw [List.take_append_drop]; exact hl
  rw [Asc, List.pairwise_append] at h1 ⊢
  refine ⟨h1.1, List.pairwise_cons.2 ⟨fun x hx => by have := hgt x hx; omega, h1.2.1⟩, fun x hx y hy => ?_⟩
  have hxt : x ≤ t := by
    obtain ⟨i, hi, rfl⟩ := List.getElem_of_mem hx
    rw [List.length_take] at hi
    have h9 := hle (by omega)
    rw [List.getElem_take]
    by_cases h8 : i = q - 1
    · subst h8; exact h9
    · have := List.pairwise_iff_getElem.1 hl i (q - 1) (by omega) (by omega) (by omega)
      omega
  rcases List.mem_cons.1 hy with rfl | h8
  · exact hxt
  · have := hgt y h8
    omega
theorem ins_perm (l : List Int) (q : Nat) (t : Int) : (l.take q ++ t :: l.drop q).Perm (t :: l) := by
  have := @List.perm_middle _ t (l.take q) (l.drop q)
  rwa [List.take_append_drop] at this

def Ext (S M : List Win) : Prop := S = [] ∨ ∃ P l l' R, S = P ++ [l] ∧ M = P ++ l' :: R ∧ l'.f = l.f ∧ l.t ≤ l'.t
theorem ext_refl (S : List Win) : Ext S S := by
  rcases List.eq_nil_or_concat S with rfl | ⟨P, l, rfl⟩
  · exact .inl rfl
  · rw [List.concat_eq_append]
    exact .inr ⟨P, l, l, [], rfl, rfl, rfl, Int.le_refl _⟩
theorem ext_step (S : List Win) (x : Win) : Ext S (mstep S x) := by
  rcases List.eq_nil_or_concat S with rfl | ⟨P, l, rfl⟩
  · exact .inl rfl
  · rw [List.concat_eq_append, mstep_snoc]
    split
    · exact .inr ⟨P, l, _, [], rfl, rfl, rfl, by simp only; omega⟩
    · exact .inr ⟨P, l, l, [x], rfl, by simp, rfl, Int.le_refl _⟩
theorem ext_trans {S T U : List Win} (h : Ext S T) (k : Ext T U) : Ext S U := by
  rcases h with rfl | ⟨P, l, l', R, rfl, rfl, h1, h2⟩
  · exact .inl rfl
  · rcases k with k | ⟨P2, m, m', R2, k1, rfl, k3, k4⟩
    · exact absurd k (by simp)
    · rcases List.eq_nil_or_concat R with rfl | ⟨R', z, rfl⟩
      · obtain ⟨e1, e2⟩ := List.append_inj' k1 rfl
        injection e2 with e2 _
        subst e1 e2
        exact .inr ⟨P, l, m', R2, rfl, rfl, by omega, by omega⟩
      · rw [List.concat_eq_append, ← List.cons_append, ← List.append_assoc] at k1
        obtain ⟨e1, e2⟩ := List.append_inj' k1 rfl
        subst e1
        exact .inr ⟨P, l, l', R' ++ m' :: R2, rfl, by simp, h1, h2⟩
theorem ext_fold : ∀ (E S : List Win), Ext S (E.foldl mstep S) := by
  intro E
  induction E with
  | nil => intro S; exact ext_refl S
  | cons x E ih => intro S; exact ext_trans (ext_step S x) (ih (mstep S x))
theorem ext_take (E : List Win) (i : Nat) : Ext (sweep (E.take i)) (sweep E) := by
  have h : sweep E = (E.drop i).foldl mstep (sweep (E.take i)) := by
    unfold sweep
    rw [← List.foldl_append, List.take_append_drop]
  rw [h]
  exact ext_fold _ _

/-- the last window of S, if x is the last time -/
def SV (S : List Win) (x g : Int) : Prop := ∃ P l, S = P ++ [l] ∧ l.t = x + g ∧ l.f ≤ x
theorem sv_new {S : List Win} {x y g : Int} (h : SV S x g) (hy : g ≤ y - x) : mstep S (mkW g y) = S ++ [mkW g y] := by
  obtain ⟨P, l, rfl, h1, h2⟩ := h
  rw [mstep_snoc, if_neg (by unfold mkW; simp only; omega)]
theorem sv_same {P : List Win} {l : Win} {x y g : Int} (h1 : l.t = x + g) (hxy : x ≤ y) (hy : y - x < g) : mstep (P ++ [l]) (mkW g y) = P ++ [⟨l.f, y + g⟩] := by
  rw [mstep_snoc, if_pos (by unfold mkW; simp only; omega)]
  have : max l.t (mkW g y).t = y + g := by unfold mkW; simp only; omega
  rw [this]
theorem sv_step {S : List Win} {x y g : Int} (h : SV S x g) (hxy : x ≤ y) : SV (mstep S (mkW g y)) y g := by
  by_cases hy : g ≤ y - x
  · rw [sv_new h hy]
    exact ⟨S, mkW g y, rfl, rfl, Int.le_refl _⟩
  · obtain ⟨P, l, rfl, h1, h2⟩ := h
    rw [sv_same h1 hxy (by omega)]
    exact ⟨P, _, rfl, rfl, by simp only; omega⟩
abbrev mkE (g : Int) (l : List Int) : List Win := l.map (mkW g)
theorem sweep_mk (g : Int) (l : List Int) (i : Nat) (hi : i < l.length) : sweep ((mkE g l).take (i + 1)) = mstep (sweep ((mkE g l).take i)) (mkW g l[i]) := by
  rw [sweep_snoc _ _ (by simpa using hi)]
  simp
theorem sv_all (g : Int) (l : List Int) (hl : Asc l) : ∀ i (hi : i < l.length), SV (sweep ((mkE g l).take (i + 1))) l[i] g := by
  intro i
  induction i with
  | zero =>
    intro hi
    rw [sweep_mk g l 0 hi, List.take_zero]
    exact ⟨[], mkW g l[0], rfl, rfl, Int.le_refl _⟩
  | succ i ih =>
    intro hi
    rw [sweep_mk g l (i + 1) hi]
    exact sv_step (ih (by omega)) (List.pairwise_iff_getElem.1 hl i (i + 1) (by omega) hi (by omega))
section
variable {g : Int} {l : List Int} {M : List Win}
theorem sess_zero (hg : 1 ≤ g) (hM : M = sweep (mkE g l)) (hi : 0 < l.length) : ∃ h : 0 < M.length, M[0].f = l[0] ∧ l[0] < M[0].t ∧ (sweep ((mkE g l).take 1)).length = 1 := by
  have h1 : sweep ((mkE g l).take 1) = [mkW g l[0]] := by rw [sweep_mk g l 0 hi, List.take_zero]; rfl
  have h2 := ext_take (mkE g l) 1
  rw [h1, ← hM] at h2
  rcases h2 with h2 | ⟨P, x, x', R, e1, e2, h3, h4⟩
  · cases h2
  · have hP : P = [] := by
      cases P with
      | nil => rfl
      | cons a P => simp at e1
    subst hP
    simp at e1
    subst e1
    subst e2
    refine ⟨by simp, ?_, ?_, by rw [h1]; rfl⟩
    · simpa [mkW] using h3
    · simp only [mkW, List.nil_append, List.getElem_cons_zero] at h4 ⊢
      omega
theorem sess_new (hg : 1 ≤ g) (hl : Asc l) (hM : M = sweep (mkE g l)) (i r : Nat) (hi : i + 1 < l.length) (hr : (sweep ((mkE g l).take (i + 1))).length = r + 1) (hn : g ≤ l[i + 1] - l[i]) :
    ∃ h : r + 1 < M.length, (M[r]'(by omega)).t = l[i] + g ∧ M[r + 1].f = l[i + 1] ∧ l[i + 1] < M[r + 1].t ∧ (sweep ((mkE g l).take (i + 2))).length = r + 2 := by
  have hv := sv_all g l hl i (by omega)
  have h1 : sweep ((mkE g l).take (i + 2)) = sweep ((mkE g l).take (i + 1)) ++ [mkW g l[i + 1]] := by rw [sweep_mk g l (i + 1) hi, sv_new hv hn]
  have h2 := ext_take (mkE g l) (i + 2)
  rw [h1, ← hM] at h2
  have hlen : (sweep ((mkE g l).take (i + 2))).length = r + 2 := by rw [h1, List.length_append, hr]; rfl
  generalize sweep ((mkE g l).take (i + 1)) = S at *
  rcases h2 with h2 | ⟨P, x, x', R, e1, e2, h3, h4⟩
  · simp at h2
  · obtain ⟨e3, e4⟩ := List.append_inj' e1 rfl
    injection e4 with e4 _
    subst e3 e4
    obtain ⟨Q, z, rfl, h5, h6⟩ := hv
    have hQ : Q.length = r := by simpa using hr
    have hSl : (Q ++ [z]).length = r + 1 := hr
    refine ⟨by rw [e2, List.length_append, hSl]; simp, ?_, ?_, ?_, hlen⟩
    · simp only [e2]
      rw [List.getElem_append_left (by omega), List.getElem_append_right (by omega)]
      simp [hQ, h5]
    · simp only [e2]
      rw [List.getElem_append_right (by omega)]
      simp [hSl, h3, mkW]
    · simp only [e2]
      rw [List.getElem_append_right (by omega)]
      simp [hSl]
      simp only [mkW] at h4
      omega
theorem sess_same (hg : 1 ≤ g) (hl : Asc l) (hM : M = sweep (mkE g l)) (i r : Nat) (hi : i + 1 < l.length) (hr : (sweep ((mkE g l).take (i + 1))).length = r + 1) (hn : ¬ g ≤ l[i + 1] - l[i]) :
    ∃ h : r < M.length, M[r].f ≤ l[i + 1] ∧ l[i + 1] < M[r].t ∧ (sweep ((mkE g l).take (i + 2))).length = r + 1 := by
  have hv := sv_all g l hl i (by omega)
  have hle := List.pairwise_iff_getElem.1 hl i (i + 1) (by omega) hi (by omega)
  obtain ⟨Q, z, hS, h5, h6⟩ := hv
  have h1 : sweep ((mkE g l).take (i + 2)) = Q ++ [⟨z.f, l[i + 1] + g⟩] := by rw [sweep_mk g l (i + 1) hi, hS, sv_same h5 hle (by omega)]
  have h2 := ext_take (mkE g l) (i + 2)
  rw [h1, ← hM] at h2
  rw [hS] at hr
  have hQ : Q.length = r := by simpa using hr
  rcases h2 with h2 | ⟨P, x, x', R, e1, e2, h3, h4⟩
  · simp at h2
  · obtain ⟨e3, e4⟩ := List.append_inj' e1 rfl
    injection e4 with e4 _
    subst e3 e4
    simp only at h3 h4
    refine ⟨by rw [e2]; simp; omega, ?_, ?_, by rw [h1]; simp [hQ]⟩
    · simp only [e2]
      rw [List.getElem_append_right (by omega)]
      simp [hQ]
      omega
    · simp only [e2]
      rw [List.getElem_append_right (by omega)]
      simp [hQ]
      omega
theorem sess_end (hl : Asc l) (hM : M = sweep (mkE g l)) (i r : Nat) (hi : i + 1 = l.length) (hr : (sweep ((mkE g l).take (i + 1))).length = r + 1) : ∃ h : M.length = r + 1, (M[r]'(by omega)).t = l[i]'(by omega) + g := by
  have hv := sv_all g l hl i (by omega)
  rw [List.take_of_length_le (by simp; omega), ← hM] at hv hr
  obtain ⟨Q, z, rfl, h5, h6⟩ := hv
  have hQ : Q.length = r := by simpa using hr
  refine ⟨hr, ?_⟩
  rw [List.getElem_append_right (by omega)]
  simp [hQ, h5]
end

end Go.Proofs.YtbnppocaeflghaaDoor
