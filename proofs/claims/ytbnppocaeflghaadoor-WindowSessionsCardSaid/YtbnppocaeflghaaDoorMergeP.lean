/- The plain law of merging: what is covered says what the merged windows are. -/
import Derived.Test.YtbnppocaeflghaaDoorMerge2
namespace Go.Proofs.YtbnppocaeflghaaDoor
open Go.RowKit
set_option linter.unusedVariables false
set_option linter.unusedSimpArgs false

/-- the place y (in halves) lies inside a window of D -/
def Cov (D : List Win) (y : Int) : Prop := ∃ x ∈ D, 2 * x.f < y ∧ y < 2 * x.t
/-- in order and apart -/
def Sep (D : List Win) : Prop := D.Pairwise (fun a b => a.t ≤ b.f) ∧ ∀ x ∈ D, x.f < x.t
theorem cov_nil (y : Int) : ¬ Cov [] y := by rintro ⟨x, hx, _⟩; cases hx
theorem cov_cons (a : Win) (D : List Win) (y : Int) : Cov (a :: D) y ↔ (2 * a.f < y ∧ y < 2 * a.t) ∨ Cov D y := by
  constructor
  · rintro ⟨x, hx, h⟩
    rcases List.mem_cons.1 hx with rfl | h9
    · exact .inl h
    · exact .inr ⟨x, h9, h⟩
  · rintro (h | ⟨x, hx, h⟩)
    · exact ⟨a, List.mem_cons_self, h⟩
    · exact ⟨x, List.mem_cons_of_mem _ hx, h⟩
theorem cov_app (A B : List Win) (y : Int) : Cov (A ++ B) y ↔ Cov A y ∨ Cov B y := by
  constructor
  · rintro ⟨x, hx, h⟩
    rcases List.mem_append.1 hx with h9 | h9
    · exact .inl ⟨x, h9, h⟩
    · exact .inr ⟨x, h9, h⟩
  · rintro (⟨x, hx, h⟩ | ⟨x, hx, h⟩)
    · exact ⟨x, List.mem_append_left _ hx, h⟩
    · exact ⟨x, List.mem_append_right _ hx, h⟩
theorem cov_one (a : Win) (y : Int) : Cov [a] y ↔ (2 * a.f < y ∧ y < 2 * a.t) := by
  rw [cov_cons]
  constructor
  · rintro (h | h)
    · exact h
    · exact absurd h (cov_nil y)
  · exact .inl
theorem cov_perm {A B : List Win} (h : A.Perm B) (y : Int) : Cov A y ↔ Cov B y :=
  ⟨fun ⟨x, hx, h9⟩ => ⟨x, h.mem_iff.1 hx, h9⟩, fun ⟨x, hx, h9⟩ => ⟨x, h.mem_iff.2 hx, h9⟩⟩
theorem sep_tail {a : Win} {D : List Win} (h : Sep (a :: D)) : Sep D := ⟨(List.pairwise_cons.1 h.1).2, fun x hx => h.2 x (List.mem_cons_of_mem _ hx)⟩
theorem sep_head {a : Win} {D : List Win} (h : Sep (a :: D)) : ∀ x ∈ D, a.t ≤ x.f := (List.pairwise_cons.1 h.1).1

theorem cov_le {a b : Win} {A B : List Win} (hA : Sep (a :: A)) (hB : Sep (b :: B)) (h : ∀ y, Cov (a :: A) y → Cov (b :: B) y) : b.f ≤ a.f := by
  have ha := hA.2 a List.mem_cons_self
  have hb := hB.2 b List.mem_cons_self
  have h1 := h (2 * a.f + 1) ((cov_cons _ _ _).2 (.inl ⟨by omega, by omega⟩))
  rcases (cov_cons _ _ _).1 h1 with h2 | ⟨x, hx, h2⟩
  · omega
  · have := sep_head hB x hx
    omega
theorem cov_le2 {a b : Win} {A B : List Win} (hA : Sep (a :: A)) (hB : Sep (b :: B)) (h : ∀ y, Cov (b :: B) y → Cov (a :: A) y) (hf : a.f = b.f) : b.t ≤ a.t := by
  have ha := hA.2 a List.mem_cons_self
  have hb := hB.2 b List.mem_cons_self
  by_cases hc : b.t ≤ a.t
  · exact hc
  · exfalso
    have h1 := h (2 * a.t) ((cov_cons _ _ _).2 (.inl ⟨by omega, by omega⟩))
    rcases (cov_cons _ _ _).1 h1 with h2 | ⟨x, hx, h2⟩
    · omega
    · have := sep_head hA x hx
      omega
theorem cov_tail {a b : Win} {A B : List Win} (hA : Sep (a :: A)) (hab : a = b) (h : ∀ y, Cov (a :: A) y → Cov (b :: B) y) : ∀ y, Cov A y → Cov B y := by
  rintro y ⟨x, hx, h2⟩
  have h3 := sep_head hA x hx
  rcases (cov_cons _ _ _).1 (h y ((cov_cons _ _ _).2 (.inr ⟨x, hx, h2⟩))) with h4 | h4
  · subst hab
    omega
  · exact h4
/-- what is covered says what the windows are -/
theorem cov_uniq : ∀ (A B : List Win), Sep A → Sep B → (∀ y, Cov A y ↔ Cov B y) → A = B := by
  intro A
  induction A with
  | nil =>
    intro B hA hB h
    cases B with
    | nil => rfl
    | cons b B =>
      have hb := hB.2 b List.mem_cons_self
      exact absurd ((h (2 * b.f + 1)).2 ((cov_cons _ _ _).2 (.inl ⟨by omega, by omega⟩))) (cov_nil _)
  | cons a A ih =>
    intro B hA hB h
    cases B with
    | nil =>
      have ha := hA.2 a List.mem_cons_self
      exact absurd ((h (2 * a.f + 1)).1 ((cov_cons _ _ _).2 (.inl ⟨by omega, by omega⟩))) (cov_nil _)
    | cons b B =>
      have h1 := cov_le hA hB (fun y => (h y).1)
      have h2 := cov_le hB hA (fun y => (h y).2)
      have hf : a.f = b.f := by omega
      have h3 := cov_le2 hA hB (fun y => (h y).2) hf
      have h4 := cov_le2 hB hA (fun y => (h y).1) hf.symm
      have hab : a = b := by
        obtain ⟨af, at_⟩ := a
        obtain ⟨bf, bt⟩ := b
        simp only at hf h3 h4
        rw [hf, show at_ = bt by omega]
      rw [ih B (sep_tail hA) (sep_tail hB) (fun y => ⟨cov_tail hA hab (fun y => (h y).1) y, cov_tail hB hab.symm (fun y => (h y).2) y⟩), hab]

theorem mstep_nil (x : Win) : mstep [] x = [x] := rfl
theorem mstep_snoc (S : List Win) (l x : Win) : mstep (S ++ [l]) x = if x.f < l.t then S ++ [⟨l.f, max l.t x.t⟩] else S ++ [l] ++ [x] := by
  have h1 : 0 < (S ++ [l]).length := by simp
  have h2 : (S ++ [l]).length - 1 = S.length := by simp
  unfold mstep
  rw [dif_pos h1]
  simp only [h2]
  have h3 : (S ++ [l])[S.length]'(by simp) = l := by simp
  rw [h3]
  split
  · rw [List.set_append_right _ _ (Nat.le_refl _), Nat.sub_self]
    rfl
  · rfl
theorem sep_snoc (S : List Win) (l : Win) : Sep (S ++ [l]) ↔ Sep S ∧ l.f < l.t ∧ ∀ x ∈ S, x.t ≤ l.f := by
  unfold Sep
  rw [List.pairwise_append]
  constructor
  · rintro ⟨⟨h1, _, h3⟩, h4⟩
    exact ⟨⟨h1, fun x hx => h4 x (List.mem_append_left _ hx)⟩, h4 l (by simp), fun x hx => h3 x hx l (by simp)⟩
  · rintro ⟨⟨h1, h2⟩, h3, h4⟩
    refine ⟨⟨h1, List.pairwise_singleton _ _, fun x hx y hy => ?_⟩, fun x hx => ?_⟩
    · obtain rfl := List.mem_singleton.1 hy
      exact h4 x hx
    · rcases List.mem_append.1 hx with h9 | h9
      · exact h2 x h9
      · obtain rfl := List.mem_singleton.1 h9
        exact h3
/-- the invariant of the sweep over the windows P -/
structure SwInv (P S : List Win) : Prop where
  sep : Sep S
  cov : ∀ y, Cov S y ↔ Cov P y
  hf : ∀ s ∈ S, ∃ p ∈ P, s.f = p.f
  ht : ∀ s ∈ S, ∃ p ∈ P, s.t = p.t
theorem max_cases (a b : Int) : (a ≤ b ∧ max a b = b) ∨ (b ≤ a ∧ max a b = a) := by omega
theorem swInv_step {P S : List Win} {x : Win} (h : SwInv P S) (hx : x.f < x.t) (hs : ∀ p ∈ P, p.f ≤ x.f) : SwInv (P ++ [x]) (mstep S x) := by
  rcases List.eq_nil_or_concat S with rfl | ⟨S', l, rfl⟩
  · rw [mstep_nil]
    refine ⟨⟨List.pairwise_singleton _ _, fun y hy => by rw [List.mem_singleton.1 hy]; exact hx⟩, fun y => ?_, fun s hs => ⟨x, by simp, by rw [List.mem_singleton.1 hs]⟩, fun s hs => ⟨x, by simp, by rw [List.mem_singleton.1 hs]⟩⟩
    rw [cov_app, ← h.cov y]
    constructor
    · exact .inr
    · rintro (h9 | h9)
      · exact absurd h9 (cov_nil y)
      · exact h9
  · rw [List.concat_eq_append] at h ⊢
    obtain ⟨h1, h2, h3⟩ := (sep_snoc S' l).1 h.sep
    have hl : l.f ≤ x.f := by
      obtain ⟨p, hp, he⟩ := h.hf l (by simp)
      have := hs p hp
      omega
    rw [mstep_snoc]
    have hm := max_cases l.t x.t
    split
    · rename_i hov
      refine ⟨(sep_snoc _ _).2 ⟨h1, by simp only; omega, h3⟩, fun y => ?_, fun s hs' => ?_, fun s hs' => ?_⟩
      · rw [cov_app, cov_app, ← h.cov y, cov_app, cov_one, cov_one, cov_one]
        simp only
        constructor
        · rintro (h9 | h9)
          · exact .inl (.inl h9)
          · by_cases h8 : y < 2 * l.t
            · exact .inl (.inr ⟨h9.1, h8⟩)
            · exact .inr ⟨by omega, by omega⟩
        · rintro ((h9 | h9) | h9)
          · exact .inl h9
          · exact .inr ⟨by omega, by omega⟩
          · exact .inr ⟨by omega, by omega⟩
      · rcases List.mem_append.1 hs' with h9 | h9
        · obtain ⟨p, hp, he⟩ := h.hf s (List.mem_append_left _ h9)
          exact ⟨p, List.mem_append_left _ hp, he⟩
        · rw [List.mem_singleton.1 h9]
          obtain ⟨p, hp, he⟩ := h.hf l (by simp)
          exact ⟨p, List.mem_append_left _ hp, he⟩
      · rcases List.mem_append.1 hs' with h9 | h9
        · obtain ⟨p, hp, he⟩ := h.ht s (List.mem_append_left _ h9)
          exact ⟨p, List.mem_append_left _ hp, he⟩
        · rw [List.mem_singleton.1 h9]
          simp only
          rcases hm with ⟨_, h8⟩ | ⟨_, h8⟩
          · exact ⟨x, by simp, h8⟩
          · obtain ⟨p, hp, he⟩ := h.ht l (by simp)
            exact ⟨p, List.mem_append_left _ hp, by rw [h8]; exact he⟩
    · rename_i hov
      refine ⟨(sep_snoc _ _).2 ⟨h.sep, hx, fun y hy => ?_⟩, fun y => ?_, fun s hs' => ?_, fun s hs' => ?_⟩
      · rcases List.mem_append.1 hy with h9 | h9
        · have := h3 y h9; omega
        · rw [List.mem_singleton.1 h9]; omega
      · rw [cov_app (S' ++ [l]) [x] y, cov_app P [x] y, ← h.cov y]
      · rcases List.mem_append.1 hs' with h9 | h9
        · obtain ⟨p, hp, he⟩ := h.hf s h9
          exact ⟨p, List.mem_append_left _ hp, he⟩
        · exact ⟨x, by simp, by rw [List.mem_singleton.1 h9]⟩
      · rcases List.mem_append.1 hs' with h9 | h9
        · obtain ⟨p, hp, he⟩ := h.ht s h9
          exact ⟨p, List.mem_append_left _ hp, he⟩
        · exact ⟨x, by simp, by rw [List.mem_singleton.1 h9]⟩
theorem swInv_fold : ∀ (E P S : List Win), SwInv P S → (∀ x ∈ E, x.f < x.t) → (P ++ E).Pairwise (fun a b => a.f ≤ b.f) → SwInv (P ++ E) (E.foldl mstep S) := by
  intro E
  induction E with
  | nil => intro P S h _ _; simpa using h
  | cons x E ih =>
    intro P S h he hp
    have hp2 := hp
    rw [List.pairwise_append] at hp
    have h1 := swInv_step h (he x List.mem_cons_self) (fun p hp' => hp.2.2 p hp' x List.mem_cons_self)
    have h2 := ih (P ++ [x]) (mstep S x) h1 (fun y hy => he y (List.mem_cons_of_mem _ hy)) (by simpa using hp2)
    simpa using h2
theorem sweep_inv (E : List Win) (he : ∀ x ∈ E, x.f < x.t) (hp : E.Pairwise (fun a b => a.f ≤ b.f)) : SwInv E (sweep E) := by
  have h := swInv_fold E [] [] ⟨⟨List.Pairwise.nil, (fun x hx => by cases hx)⟩, (fun y => Iff.rfl), (fun s hs => by cases hs), (fun s hs => by cases hs)⟩ he (by simpa using hp)
  simpa [sweep] using h
/-- what Merge gives of D -/
structure Merged (D M : List Win) : Prop where
  sep : Sep M
  cov : ∀ y, Cov M y ↔ Cov D y
  hf : ∀ s ∈ M, ∃ p ∈ D, s.f = p.f
  ht : ∀ s ∈ M, ∃ p ∈ D, s.t = p.t
  len : M.length ≤ D.length
theorem merged_of {D E : List Win} (hg : AllGood D) (hp : E.Perm D) (hs : E.Pairwise (fun a b => a.f ≤ b.f)) : Merged D (sweep E) := by
  have h := sweep_inv E (fun x hx => by have := hg x (hp.mem_iff.1 hx); unfold Win.good at this; omega) hs
  refine ⟨h.sep, fun y => (h.cov y).trans (cov_perm hp y), fun s hs' => ?_, fun s hs' => ?_, ?_⟩
  · obtain ⟨p, h1, h2⟩ := h.hf s hs'
    exact ⟨p, hp.mem_iff.1 h1, h2⟩
  · obtain ⟨p, h1, h2⟩ := h.ht s hs'
    exact ⟨p, hp.mem_iff.1 h1, h2⟩
  · have := sweep_len E
    rw [hp.length_eq] at this
    exact this
theorem Merged.good {D M : List Win} (h : Merged D M) (hg : AllGood D) : AllGood M := by
  intro s hs
  obtain ⟨p, h1, h2⟩ := h.hf s hs
  obtain ⟨q, h3, h4⟩ := h.ht s hs
  have g1 := hg p h1
  have g2 := hg q h3
  have h5 := h.sep.2 s hs
  unfold Win.good at *
  omega
theorem Merged.uniq {D D' M M' : List Win} (h : Merged D M) (h' : Merged D' M') (he : ∀ y, Cov D y ↔ Cov D' y) : M = M' :=
  cov_uniq M M' h.sep h'.sep (fun y => (h.cov y).trans ((he y).trans (h'.cov y).symm))

end Go.Proofs.YtbnppocaeflghaaDoor
