/- cells: slices.SortFunc at places. -/
import Derived.Test.YtkobaidamdffmaaPord
import Derived.Test.YtkobaidamdffmaaSortG
namespace Go.Proofs
open Go.Shelf Go.Lib
def Try.sortP_ren : Go.Shelf.Ren := ⟨fun | 6 => 78 | 15 => 84 | 14 => 83 | 28 => 95 | 29 => 96 | 20 => 87 | 21 => 88 | 22 => 89 | 23 => 90 | 24 => 91 | 25 => 92 | 26 => 93 | 27 => 94 | 46 => 98 | 47 => 99 | 48 => 100 | 49 => 101 | 50 => 102 | 57 => 103 | n => n, fun | 22 => 91 | 24 => 87 | 25 => 122 | 3 => 3 | 39 => 126 | 0 => 0 | 53 => 158 | 55 => 160 | 4 => 4 | 46 => 152 | 45 => 151 | 50 => 97 | 5 => 5 | 9 => 9 | 66 => 162 | 70 => 166 | 76 => 168 | 77 => 169 | n => n, fun | n => n⟩
theorem Try.sortP : Go.Proofs.SlLaysF0.n6 Try.prog Try.sortP_ren := {
  mixed := by kernel_rfl
  f6 := ⟨Try.f78.name, by decide, Try.func78.trans (congrArg some (by kernel_rfl))⟩
  f14 := ⟨Try.f83.name, by decide, Try.func83.trans (congrArg some (by kernel_rfl))⟩
  f15 := Try.func84.trans (congrArg some (by kernel_rfl))
  f20 := ⟨Try.f87.name, by decide, Try.func87.trans (congrArg some (by kernel_rfl))⟩
  f21 := ⟨Try.f88.name, by decide, Try.func88.trans (congrArg some (by kernel_rfl))⟩
  f22 := ⟨Try.f89.name, by decide, Try.func89.trans (congrArg some (by kernel_rfl))⟩
  f23 := ⟨Try.f90.name, by decide, Try.func90.trans (congrArg some (by kernel_rfl))⟩
  f24 := ⟨Try.f91.name, by decide, Try.func91.trans (congrArg some (by kernel_rfl))⟩
  f25 := ⟨Try.f92.name, by decide, Try.func92.trans (congrArg some (by kernel_rfl))⟩
  f26 := ⟨Try.f93.name, by decide, Try.func93.trans (congrArg some (by kernel_rfl))⟩
  f27 := ⟨Try.f94.name, by decide, Try.func94.trans (congrArg some (by kernel_rfl))⟩
  f28 := Try.func95.trans (congrArg some (by kernel_rfl))
  f29 := Try.func96.trans (congrArg some (by kernel_rfl))
  f46 := ⟨Try.f98.name, by decide, Try.func98.trans (congrArg some (by kernel_rfl))⟩
  f47 := Try.func99.trans (congrArg some (by kernel_rfl))
  f48 := Try.func100.trans (congrArg some (by kernel_rfl))
  f49 := ⟨Try.f101.name, by decide, Try.func101.trans (congrArg some (by kernel_rfl))⟩
  f50 := ⟨Try.f102.name, by decide, Try.func102.trans (congrArg some (by kernel_rfl))⟩
  f57 := ⟨Try.f103.name, by decide, Try.func103.trans (congrArg some (by kernel_rfl))⟩
  t0 := Try.underlying0
  a0 := Try.isAgg0
  z0 := Try.sizeOf0
  v0 := Try.zeroValue0
  t3 := Try.underlying3
  a3 := Try.isAgg3
  z3 := Try.sizeOf3
  v3 := Try.zeroValue3
  t4 := Try.underlying4
  a4 := Try.isAgg4
  z4 := Try.sizeOf4
  v4 := Try.zeroValue4
  t5 := Try.underlying5
  a5 := Try.isAgg5
  z5 := Try.sizeOf5
  v5 := Try.zeroValue5
  t9 := Try.underlying9
  a9 := Try.isAgg9
  z9 := Try.sizeOf9
  v9 := Try.zeroValue9
  t22 := Try.underlying91
  a22 := Try.isAgg91
  z22 := Try.sizeOf91
  v22 := Try.zeroValue91
  t25 := Try.underlying122
  a25 := Try.isAgg122
  z25 := Try.sizeOf122
  v25 := Try.zeroValue122
  t39 := Try.underlying126
  a39 := Try.isAgg126
  z39 := Try.sizeOf126
  v39 := Try.zeroValue126
  t45 := Try.underlying151
  a45 := Try.isAgg151
  z45 := Try.sizeOf151
  v45 := Try.zeroValue151
  t46 := Try.underlying152
  a46 := Try.isAgg152
  z46 := Try.sizeOf152
  v46 := Try.zeroValue152
  t50 := Try.underlying97
  a50 := Try.isAgg97
  z50 := Try.sizeOf97
  v50 := Try.zeroValue97
  t53 := Try.underlying158
  a53 := Try.isAgg158
  z53 := Try.sizeOf158
  v53 := Try.zeroValue158
  t55 := Try.underlying160
  a55 := Try.isAgg160
  z55 := Try.sizeOf160
  v55 := Try.zeroValue160
  t66 := Try.underlying162
  a66 := Try.isAgg162
  z66 := Try.sizeOf162
  v66 := Try.zeroValue162
  t70 := Try.underlying166
  a70 := Try.isAgg166
  z70 := Try.sizeOf166
  v70 := Try.zeroValue166
  t76 := Try.underlying168
  a76 := Try.isAgg168
  z76 := Try.sizeOf168
  v76 := Try.zeroValue168
  t77 := Try.underlying169
  a77 := Try.isAgg169
  z77 := Try.sizeOf169
  v77 := Try.zeroValue169 }
end Go.Proofs
namespace Go.Proofs.Ytkobaidamdffmaa
open Go.RowKit Go.Sort
set_option linter.unusedVariables false
set_option linter.unusedSimpArgs false

def PK.cells (p : PK) : List Value := [.string (strOfNums p.b), .int .i64 p.f, .int .i64 p.t]
theorem PK.cells3 (p : PK) : p.cells.length = 3 := rfl
def pls (D : List PK) : List Value := D.flatMap PK.cells
instance : Inhabited PK := ⟨⟨[], 0, 1, fun c hc => (by cases hc), by simp, by decide⟩⟩
def ltP (x y : PK) : Prop := wlt x.win y.win ∨ (x.win = y.win ∧ cmpB x.b y.b < 0)
theorem wlt_tri (x y : Win) : wlt x y ∨ x = y ∨ wlt y x := by
  obtain ⟨a, b⟩ := x
  obtain ⟨c, d⟩ := y
  unfold wlt
  simp only [Win.mk.injEq]
  omega
theorem wlt_irr (x : Win) : ¬ wlt x x := by unfold wlt; omega
theorem wlt_trans {x y z : Win} (h : wlt x y) (k : wlt y z) : wlt x z := by unfold wlt at *; omega
theorem wlt_asym {x y : Win} (h : wlt x y) : ¬ wlt y x := fun k => wlt_irr x (wlt_trans h k)
theorem ordP_neg (x y : PK) : ordP x y < 0 ↔ ltP x y := by
  unfold ordP ltP
  split
  · rename_i h; simp [h]
  · rename_i h
    split
    · rename_i h2
      constructor
      · intro h9; omega
      · rintro (h9 | ⟨h9, _⟩)
        · exact absurd h9 h
        · rw [h9] at h2; exact absurd h2 (wlt_irr _)
    · rename_i h2
      have he : x.win = y.win := by
        rcases wlt_tri x.win y.win with h9 | h9 | h9
        · exact absurd h9 h
        · exact h9
        · exact absurd h9 h2
      simp [h, he]
      intro h9
      rw [he] at h
      exact absurd h9 (wlt_irr _)
theorem ltP_irr (x : PK) : ¬ ltP x x := by
  rintro (h | ⟨_, h⟩)
  · exact wlt_irr _ h
  · have := (cmpB_zero x.b x.b).2 rfl; omega
theorem ltP_trans {x y z : PK} (h : ltP x y) (k : ltP y z) : ltP x z := by
  rcases h with h | ⟨h, h2⟩
  · rcases k with k | ⟨k, _⟩
    · exact .inl (wlt_trans h k)
    · exact .inl (by rw [← k]; exact h)
  · rcases k with k | ⟨k, k2⟩
    · exact .inl (by rw [h]; exact k)
    · exact .inr ⟨h.trans k, cmpB_trans _ _ _ h2 k2⟩
theorem ltP_tri (x y : PK) : ltP x y ∨ x = y ∨ ltP y x := by
  rcases wlt_tri x.win y.win with h | h | h
  · exact .inl (.inl h)
  · have ha := cmpB_anti x.b y.b
    by_cases h1 : cmpB x.b y.b < 0
    · exact .inl (.inr ⟨h, h1⟩)
    · by_cases h2 : cmpB y.b x.b < 0
      · exact .inr (.inr (.inr ⟨h.symm, h2⟩))
      · have h3 : x.b = y.b := (cmpB_zero _ _).1 (by omega)
        refine .inr (.inl ((PK.eq_iff x y).2 ⟨h3, ?_⟩))
        unfold PK.win at h
        injection h with h4 h5
        exact ⟨h4, h5⟩
  · exact .inr (.inr (.inl h))
def leP (x y : PK) : Prop := ¬ ltP y x
theorem leP_anti {x y : PK} (h : leP x y) (k : leP y x) : x = y := by
  rcases ltP_tri x y with h1 | h1 | h1
  · exact absurd h1 k
  · exact h1
  · exact absurd h1 h
theorem swo_P : SWO (ltOf ordP) where
  irrefl x := by
    show decide (ordP x x < 0) = false
    exact decide_eq_false (fun h => ltP_irr x ((ordP_neg _ _).1 h))
  trans x y z h1 h2 := by
    have a1 := (ordP_neg _ _).1 (of_decide_eq_true h1)
    have a2 := (ordP_neg _ _).1 (of_decide_eq_true h2)
    exact decide_eq_true ((ordP_neg _ _).2 (ltP_trans a1 a2))
  ntrans x y z h1 h2 := by
    have a1 : ¬ ltP x y := fun h => of_decide_eq_false h1 ((ordP_neg _ _).2 h)
    have a2 : ¬ ltP y z := fun h => of_decide_eq_false h2 ((ordP_neg _ _).2 h)
    refine decide_eq_false (fun h9 => ?_)
    have h := (ordP_neg _ _).1 h9
    rcases ltP_tri x y with h3 | h3 | h3
    · exact a1 h3
    · rw [h3] at h; exact a2 h
    · exact a2 (ltP_trans h3 h)
theorem sortedP_eq {A B : List PK} (h : A.Perm B) (hA : A.Pairwise leP) (hB : B.Pairwise leP) : A = B :=
  h.eq_of_pairwise (le := leP) (fun a b _ _ => leP_anti) hA hB

theorem grow_below3 {w : World} (os : Array Obj) : Below w.heap.size w (grow w os) := by
  have h := grow_below (w := w) 0 os
  exact h
/-- slices.SortFunc at places -/
theorem psort_any (v : Value) (K : List PK) (base : Nat) (w : World) (h : Own w base plT 3 v K.length (pls K)) (hn : K.length < 4611686018427387904) :
    Calls Try.prog 78 #[v, .func (.func 51) #[] #[]] w fun e w' => e = .returned (.tuple #[]) ∧ ∃ E : List PK, E.Perm K ∧ E.Pairwise leP ∧ Own w' base plT 3 v K.length (pls E) ∧ Fr (fun k => v.ownBlock = some k) w w' := by
  rcases h.2 with ⟨rfl, h0⟩ | ⟨g', cap, cur, rfl, _, hg', _⟩
  · have hD : K = [] := List.eq_nil_of_length_eq_zero h0
    subst hD
    refine (AnyF.slices_SortFunc_none Try.sortP none 0 _ w).mono ?_
    rintro e w' ⟨rfl, rfl⟩
    exact ⟨rfl, [], List.Perm.refl _, List.Pairwise.nil, h, Fr.refl _ _⟩
  · have hblk : g' < w.heap.size := (h.lt g' rfl).2
    unfold pls at h
    have eg : ∀ args w, (callFunc 51 args).run Try.prog w = .ok (.enter 51 args) w := fun args w => by kernel_rfl
    have hcm : CmpLays Try.prog 51 #[] PK.cells 3 ordP g' 0 K.toArray.size w := by
      intro m os dk hs x y
      exact pord_any x y _
    refine (AnyQ.slices_SortFunc Try.sortP 3 Try.isAgg87 Try.sizeOf87 PK.cells (fun _ => rfl) (fun x v hv => ?_) ordP swo_P 51 #[] g' 0 cap K.toArray w eg hcm (gen_holds PK.cells3 (Nat.succ_pos 2) h) hblk (by simp; omega)).mono ?_
    · simp [PK.cells] at hv
      rcases hv with rfl | rfl | rfl <;> rfl
    rintro e w' ⟨rfl, d', n, os, hp, hs, rfl⟩
    have hsz : d'.size = K.length := by simpa using hp.1
    have hd : d'.toList.length = K.length := by simpa using hsz
    have h9 := gen_putK (m := n) (E := d'.toList) PK.cells3 (Nat.succ_pos 2) h hd
    have h10 : d'.toList.toArray = d' := by simp
    rw [h10] at h9
    refine ⟨rfl, d'.toList, ?_, ?_, h9.1.below (grow_below3 os), ?_⟩
    · have h8 := hp.2.2
      have e1 : d'.extract 0 K.toArray.size = d' := by
        rw [show K.toArray.size = d'.size by simp [hsz]]
        exact Array.extract_size
      have e2 : K.toArray.extract 0 K.toArray.size = K.toArray := Array.extract_size
      rw [e1, e2] at h8
      exact h8
    · rw [List.pairwise_iff_getElem]
      intro i j hi hj hij
      have h8 := hs i j (Nat.zero_le _) hij (by simp at hj; simp; omega)
      simp at hi hj
      rw [getElem!_pos d' i hi, getElem!_pos d' j hj] at h8
      have h7 : ¬ ltP d'[j] d'[i] := fun h9 => of_decide_eq_false h8 ((ordP_neg _ _).2 h9)
      simpa [leP] using h7
    · exact (h9.2.mono (fun k _ hk => by subst hk; rfl)).trans (Fr.of_below (grow_below3 os) : Fr nob _ _) (fun k _ hk => hk.elim)

end Go.Proofs.Ytkobaidamdffmaa
