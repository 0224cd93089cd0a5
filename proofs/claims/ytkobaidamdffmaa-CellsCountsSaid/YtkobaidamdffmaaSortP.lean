/- cells: slices.SortFunc at places. -/
import Derived.Test.YtkobaidamdffmaaPord
import Derived.Test.YtkobaidamdffmaaSortG
namespace Go.Proofs
open Go.Shelf Go.Lib
shelf_lay_g SlLaysF0.n6 Slsf 6 at Try 78 as Try.sortP
end Go.Proofs
namespace Go.Proofs.Ytkobaidamdffmaa
open Go.RowKit Go.Sort
set_option linter.unusedVariables false
set_option linter.unusedSimpArgs false

def PK.cells (p : PK) : List Value := [.string (strOfNums p.b), .int .i64 p.f, .int .i64 p.t]
theorem PK.cells3 (p : PK) : p.cells.length = 3 := rfl
def pls (D : List PK) : List Value := D.flatMap PK.cells
instance : Inhabited PK := ⟨⟨[], 0, 1, fun c hc => (by cases hc), by simp, by decide⟩⟩
def ltP (x y : PK) : Prop := wlt x.win y.win ∨ (x.win = y.win ∧ cmpB x.b y.b < 0)
theorem wlt_tri (x y : Win) : wlt x y ∨ x = y ∨ wlt y x := by
  obtain ⟨a, b⟩ := x
  obtain ⟨c, d⟩ := y
  unfold wlt
  simp only [Win.mk.injEq]
  omega
theorem wlt_irr (x : Win) : ¬ wlt x x := by unfold wlt; omega
theorem wlt_trans {x y z : Win} (h : wlt x y) (k : wlt y z) : wlt x z := by unfold wlt at *; omega
theorem wlt_asym {x y : Win} (h : wlt x y) : ¬ wlt y x := fun k => wlt_irr x (wlt_trans h k)
theorem ordP_neg (x y : PK) : ordP x y < 0 ↔ ltP x y := by
  unfold ordP ltP
  split
  · rename_i h; simp [h]
  · rename_i h
    split
    · rename_i h2
      constructor
      · intro h9; omega
      · rintro (h9 | ⟨h9, _⟩)
        · exact absurd h9 h
        · rw [h9] at h2; exact absurd h2 (wlt_irr _)
    · rename_i h2
      have he : x.win = y.win := by
        rcases wlt_tri x.win y.win with h9 | h9 | h9
        · exact absurd h9 h
        · exact h9
        · exact absurd h9 h2
      simp [h, he]
      intro h9
      rw [he] at h
      exact absurd h9 (wlt_irr _)
theorem ltP_irr (x : PK) : ¬ ltP x x := by
  rintro (h | ⟨_, h⟩)
  · exact wlt_irr _ h
  · have := (cmpB_zero x.b x.b).2 rfl; omega
theorem ltP_trans {x y z : PK} (h : ltP x y) (k : ltP y z) : ltP x z := by
  rcases h with h | ⟨h, h2⟩
  · rcases k with k | ⟨k, _⟩
    · exact .inl (wlt_trans h k)
    · exact .inl (by rw [← k]; exact h)
  · rcases k with k | ⟨k, k2⟩
    · exact .inl (by rw [h]; exact k)
    · exact .inr ⟨h.trans k, cmpB_trans _ _ _ h2 k2⟩
theorem ltP_tri (x y : PK) : ltP x y ∨ x = y ∨ ltP y x := by
  rcases wlt_tri x.win y.win with h | h | h
  · exact .inl (.inl h)
  · have ha := cmpB_anti x.b y.b
    by_cases h1 : cmpB x.b y.b < 0
    · exact .inl (.inr ⟨h, h1⟩)
    · by_cases h2 : cmpB y.b x.b < 0
      · exact .inr (.inr (.inr ⟨h.symm, h2⟩))
      · have h3 : x.b = y.b := (cmpB_zero _ _).1 (by omega)
        refine .inr (.inl ((PK.eq_iff x y).2 ⟨h3, ?_⟩))
        unfold PK.win at h
        injection h with h4 h5
        exact ⟨h4, h5⟩
  · exact .inr (.inr (.inl h))
def leP (x y : PK) : Prop := ¬ ltP y x
theorem leP_anti {x y : PK} (h : leP x y) (k : leP y x) : x = y := by
  rcases ltP_tri x y with h1 | h1 | h1
  · exact absurd h1 k
  · exact h1
  · exact absurd h1 h
theorem swo_P : SWO (ltOf ordP) where
  irrefl x := by
    show decide (ordP x x < 0) = false
    exact decide_eq_false (fun h => ltP_irr x ((ordP_neg _ _).1 h))
  trans x y z h1 h2 := by
    have a1 := (ordP_neg _ _).1 (of_decide_eq_true h1)
    have a2 := (ordP_neg _ _).1 (of_decide_eq_true h2)
    exact decide_eq_true ((ordP_neg _ _).2 (ltP_trans a1 a2))
  ntrans x y z h1 h2 := by
    have a1 : ¬ ltP x y := fun h => of_decide_eq_false h1 ((ordP_neg _ _).2 h)
    have a2 : ¬ ltP y z := fun h => of_decide_eq_false h2 ((ordP_neg _ _).2 h)
    refine decide_eq_false (fun h9 => ?_)
    have h := (ordP_neg _ _).1 h9
    rcases ltP_tri x y with h3 | h3 | h3
    · exact a1 h3
    · rw [h3] at h; exact a2 h
    · exact a2 (ltP_trans h3 h)
theorem sortedP_eq {A B : List PK} (h : A.Perm B) (hA : A.Pairwise leP) (hB : B.Pairwise leP) : A = B :=
  h.eq_of_pairwise (le := leP) (fun a b _ _ => leP_anti) hA hB

theorem grow_below3 {w : World} (os : Array Obj) : Below w.heap.size w (grow w os) := by
  have h := grow_below (w := w) 0 os
  exact h
/-- slices.SortFunc at places -/
theorem psort_any (v : Value) (K : List PK) (base : Nat) (w : World) (h : Own w base plT 3 v K.length (pls K)) (hn : K.length < 4611686018427387904) :
    Calls Try.prog 78 #[v, .func (.func 51) #[] #[]] w fun e w' => e = .returned (.tuple #[]) ∧ ∃ E : List PK, E.Perm K ∧ E.Pairwise leP ∧ Own w' base plT 3 v K.length (pls E) ∧ Fr (fun k => v.ownBlock = some k) w w' := by
  rcases h.2 with ⟨rfl, h0⟩ | ⟨g', cap, cur, rfl, _, hg', _⟩
  · have hD : K = [] := List.eq_nil_of_length_eq_zero h0
    subst hD
    refine (AnyF.slices_SortFunc_none Try.sortP none 0 _ w).mono ?_
    rintro e w' ⟨rfl, rfl⟩
    exact ⟨rfl, [], List.Perm.refl _, List.Pairwise.nil, h, Fr.refl _ _⟩
  · have hblk : g' < w.heap.size := (h.lt g' rfl).2
    unfold pls at h
    have eg : ∀ args w, (callFunc 51 args).run Try.prog w = .ok (.enter 51 args) w := fun args w => by kernel_rfl
    have hcm : CmpLays Try.prog 51 #[] PK.cells 3 ordP g' 0 K.toArray.size w := by
      intro m os dk hs x y
      exact pord_any x y _
    refine (AnyQ.slices_SortFunc Try.sortP 3 Try.isAgg87 Try.sizeOf87 PK.cells (fun _ => rfl) (fun x v hv => ?_) ordP swo_P 51 #[] g' 0 cap K.toArray w eg hcm (gen_holds PK.cells3 (Nat.succ_pos 2) h) hblk (by simp; omega)).mono ?_
    · simp [PK.cells] at hv
      rcases hv with rfl | rfl | rfl <;> rfl
    rintro e w' ⟨rfl, d', n, os, hp, hs, rfl⟩
    have hsz : d'.size = K.length := by simpa using hp.1
    have hd : d'.toList.length = K.length := by simpa using hsz
    have h9 := gen_putK (m := n) (E := d'.toList) PK.cells3 (Nat.succ_pos 2) h hd
    have h10 : d'.toList.toArray = d' := by simp
    rw [h10] at h9
    refine ⟨rfl, d'.toList, ?_, ?_, h9.1.below (grow_below3 os), ?_⟩
    · have h8 := hp.2.2
      have e1 : d'.extract 0 K.toArray.size = d' := by
        rw [show K.toArray.size = d'.size by simp [hsz]]
        exact Array.extract_size
      have e2 : K.toArray.extract 0 K.toArray.size = K.toArray := Array.extract_size
      rw [e1, e2] at h8
      exact h8
    · rw [List.pairwise_iff_getElem]
      intro i j hi hj hij
      have h8 := hs i j (Nat.zero_le _) hij (by simp at hj; simp; omega)
      simp at hi hj
      rw [getElem!_pos d' i hi, getElem!_pos d' j hj] at h8
      have h7 : ¬ ltP d'[j] d'[i] := fun h9 => of_decide_eq_false h8 ((ordP_neg _ _).2 h9)
      simpa [leP] using h7
    · exact (h9.2.mono (fun k _ hk => by subst hk; rfl)).trans (Fr.of_below (grow_below3 os) : Fr nob _ _) (fun k _ hk => hk.elim)

end Go.Proofs.Ytkobaidamdffmaa
