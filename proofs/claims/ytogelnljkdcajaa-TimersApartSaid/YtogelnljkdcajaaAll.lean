/- timers.Heap: All. -/
import Derived.Test.YtogelnljkdcajaaHp7
import Derived.Test.YtogelnljkdcajaaSortG
namespace Go.Proofs
open Go.Shelf Go.Lib
shelf_lay_g SlLaysF0.n6 Slsf 6 at Try 35 as Try.sortT
end Go.Proofs
namespace Go.Proofs.Ytogelnljkdcajaa
open Go.RowKit Go.Sort
set_option linter.unusedVariables false
set_option linter.unusedSimpArgs false

theorem Own.slB' {w : World} {base e sz n B : Nat} {v : Value} {xs : List Value} (h : Own w base e sz v n xs) (hB : ∀ g, v.ownBlock = some g → g < B) : Sl w B v sz n xs := by
  refine ⟨h.1, ?_⟩
  rcases h.2 with ⟨rfl, rfl⟩ | ⟨g, cap, cur, rfl, hb, hg, hc, hm, _⟩
  · exact ⟨none, 0, rfl, by omega, by omega, by omega⟩
  · exact ⟨_, cap, rfl, hc, by unfold maxLen at hm; omega, fun _ => ⟨_, rfl, hB g rfl, fun j u hu => h.cells (g := g) rfl j u hu⟩⟩
/-- timers with keys of the call's own -/
abbrev KT (w : World) (base : Nat) := {x : TV // KeyO w base x}
instance (w : World) (base : Nat) : Inhabited (KT w base) := ⟨⟨tz, Own.nil _ _ _ _, fun c hc => (by cases hc), by simp [tz]⟩⟩
def KT.enc {w : World} {base : Nat} (x : KT w base) : List Value := x.1.cells
theorem KT.len5 {w : World} {base : Nat} (x : KT w base) : x.enc.length = 5 := rfl
def KT.cf {w : World} {base : Nat} (x y : KT w base) : Int := ordT x.1 y.1
theorem lt_cf {w : World} {base : Nat} (x y : KT w base) : ltOf KT.cf x y = ltT x.1 y.1 := rfl
theorem ordT_irr (x : TV) : ¬ ordT x x < 0 := by
  rw [ordT_eq]
  have := cp_L.anti x x
  omega
theorem swo_T {w : World} {base : Nat} : SWO (ltOf (KT.cf (w := w) (base := base))) where
  irrefl x := by rw [lt_cf]; exact decide_eq_false (ordT_irr x.1)
  trans x y z h1 h2 := by
    rw [lt_cf] at h1 h2 ⊢
    have a1 := of_decide_eq_true h1
    have a2 := of_decide_eq_true h2
    refine decide_eq_true ?_
    rw [ordT_eq] at a1 a2 ⊢
    have b1 := cp_L.trans x.1 y.1 z.1 (by omega) (by omega)
    by_cases h0 : ordL x.1 z.1 = 0
    · have c1 := cp_L.anti x.1 z.1
      have c2 := cp_L.trans y.1 z.1 x.1 (by omega) (by omega)
      have c3 := cp_L.anti x.1 y.1
      omega
    · omega
  ntrans x y z h1 h2 := by
    rw [lt_cf] at h1 h2 ⊢
    have a1 := of_decide_eq_false h1
    have a2 := of_decide_eq_false h2
    refine decide_eq_false ?_
    rw [ordT_eq] at a1 a2 ⊢
    have c1 := cp_L.anti x.1 y.1
    have c2 := cp_L.anti y.1 z.1
    have c3 := cp_L.anti x.1 z.1
    have b1 := cp_L.trans z.1 y.1 x.1 (by omega) (by omega)
    omega
theorem flat_KT {w : World} {base : Nat} (D : List (KT w base)) : D.flatMap KT.enc = tms (D.map (·.1)) := by
  unfold tms
  rw [List.flatMap_map]
  rfl
theorem grow_below2 {w : World} (os : Array Obj) : Below w.heap.size w (grow w os) := by
  have h := grow_below (w := w) 0 os
  exact h

/-- slices.SortFunc at timers -/
theorem tsort_any (v : Value) (D : List TV) (base : Nat) (w : World) (h : Own w base tmT 5 v D.length (tms D)) (hk : ∀ x ∈ D, KeyO w base x) (hn : D.length < 4611686018427387904) :
    Calls Try.prog 35 #[v, .func (.func 36) #[] #[]] w fun e w' => e = .returned (.tuple #[]) ∧ ∃ E : List TV, E.Perm D ∧ E.Pairwise leT ∧ Own w' base tmT 5 v D.length (tms E) ∧ Fr (fun k => v.ownBlock = some k) w w' := by
  rcases h.2 with ⟨rfl, h0⟩ | ⟨g', cap, cur, rfl, _, hg', _⟩
  · have hD : D = [] := List.eq_nil_of_length_eq_zero h0
    subst hD
    refine (AnyF.slices_SortFunc_none Try.sortT none 0 _ w).mono ?_
    rintro e w' ⟨rfl, rfl⟩
    exact ⟨rfl, [], List.Perm.refl _, List.Pairwise.nil, h, Fr.refl _ _⟩
  · have hblk : g' < w.heap.size := (h.lt g' rfl).2
    obtain ⟨K, hK⟩ : ∃ K : List (KT w base), K.map (·.1) = D := ⟨D.attach.map (fun x => ⟨x.1, hk x.1 x.2⟩), by simp⟩
    have hKl : K.length = D.length := by rw [← hK]; simp
    rw [← hK] at h
    rw [← flat_KT] at h
    simp only [List.length_map] at h
    rw [← hKl]
    have eg : ∀ args w, (callFunc 36 args).run Try.prog w = .ok (.enter 36 args) w := fun args w => by kernel_rfl
    have hcm : CmpLays Try.prog 36 #[] (KT.enc (w := w) (base := base)) 5 (KT.cf (w := w) (base := base)) g' 0 K.toArray.size w := by
      intro m os dk hs x y
      have hz : dk.toList.length = K.length := by simpa using hs
      have hp := gen_putK (m := m) (E := dk.toList) KT.len5 (Nat.succ_pos 4) h hz
      have e10 : dk.toList.toArray = dk := by simp
      rw [e10] at hp
      have hf : Fr (fun k => k = g') w (grow (putRowK (KT.enc (w := w) (base := base)) 5 (Go.Sort.ahead w m) g' 0 dk) os) := hp.2.trans (Fr.of_below (grow_below2 os) : Fr nob _ _) (fun _ _ f => f.elim)
      have hky : ∀ z : KT w base, KeyIn (grow (putRowK (KT.enc (w := w) (base := base)) 5 (Go.Sort.ahead w m) g' 0 dk) os) w.heap.size z.1 := fun z => by
        obtain ⟨cs, hcs⟩ := h.typed g' rfl
        refine ⟨(z.2.1.fr hf (fun k hk9 e => ?_)).slB' (fun k hk9 => (z.2.1.lt k hk9).2), z.2.2.1⟩
        subst e
        exact z.2.1.ne hcs (by decide) hk9
      exact order_any x.1 y.1 w.heap.size _ (hky x) (hky y) hf.size
    refine (AnyQ.slices_SortFunc Try.sortT 5 Try.isAgg37 Try.sizeOf37 KT.enc (fun _ => rfl) (fun x v hv => ?_) KT.cf swo_T 36 #[] g' 0 cap K.toArray w eg hcm (gen_holds KT.len5 (Nat.succ_pos 4) h) hblk (by simp; omega)).mono ?_
    · obtain ⟨A, c, hkv, _⟩ := x.2.1.sl.form
      obtain ⟨⟨xa, xk, xb, xf, xt, xw⟩, hx⟩ := x
      simp only at hkv
      subst hkv
      simp [KT.enc, TV.cells] at hv
      rcases hv with rfl | rfl | rfl | rfl | rfl <;> rfl
    rintro e w' ⟨rfl, d', n, os, hp, hs, rfl⟩
    have hsz : d'.size = K.length := by simpa using hp.1
    have hd : d'.toList.length = K.length := by simpa using hsz
    have h9 := gen_putK (m := n) (E := d'.toList) KT.len5 (Nat.succ_pos 4) h hd
    have h10 : d'.toList.toArray = d' := by simp
    rw [h10, flat_KT] at h9
    refine ⟨rfl, d'.toList.map (fun x : KT w base => x.1), ?_, ?_, h9.1.below (grow_below2 os), ?_⟩
    · have h8 := hp.2.2
      have e1 : d'.extract 0 K.toArray.size = d' := by
        rw [show K.toArray.size = d'.size by simp [hsz]]
        exact Array.extract_size
      have e2 : K.toArray.extract 0 K.toArray.size = K.toArray := Array.extract_size
      rw [e1, e2] at h8
      rw [← hK]
      exact h8.map _
    · rw [List.pairwise_map, List.pairwise_iff_getElem]
      intro i j hi hj hij
      have h8 := hs i j (Nat.zero_le _) hij (by simp at hj; simp; omega)
      simp at hi hj
      rw [getElem!_pos d' i hi, getElem!_pos d' j hj] at h8
      rw [lt_cf] at h8
      have := nlt_le h8
      simpa using this
    · exact (h9.2.mono (fun k _ hk => by subst hk; rfl)).trans (Fr.of_below (grow_below2 os) : Fr nob _ _) (fun k _ hk => hk.elim)


end Go.Proofs.Ytogelnljkdcajaa
