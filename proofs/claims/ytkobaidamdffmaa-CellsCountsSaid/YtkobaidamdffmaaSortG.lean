/- Rows of structs in the words of the shelf's sort. -/
import Derived.Test.YtkobaidamdffmaaApp
import Derived.Test.YtkobaidamdffmaaProg
import Derived.Shelf.SlSortCmp.NoneTotal
import Derived.Ground.SlsfProg
namespace Go.Proofs.Ytkobaidamdffmaa
open Go.RowKit Go.Sort
set_option linter.unusedVariables false
set_option linter.unusedSimpArgs false

section
variable {α : Type} [Inhabited α] {enc : α → List Value} {sz : Nat}
omit [Inhabited α] in
theorem gen_get (hf : ∀ x, (enc x).length = sz) (D : List α) (k r : Nat) (hk : k < D.length) (hr : r < sz) : (D.flatMap enc)[k * sz + r]? = (enc D[k])[r]? := by
  have h := part_of enc sz hf D k hk
  rw [← h, List.getElem?_take, if_pos hr, List.getElem?_drop]
theorem gen_flat (hf : ∀ x, (enc x).length = sz) (hs : 0 < sz) (D : List α) : (flatK enc sz D.toArray).toList = D.flatMap enc := by
  apply List.ext_getElem?
  intro t
  by_cases ht : t < D.length * sz
  · have hk : t / sz < D.length := Nat.div_lt_of_lt_mul (by rw [Nat.mul_comm]; exact ht)
    have hr : t % sz < sz := Nat.mod_lt _ hs
    have e1 : t = t / sz * sz + t % sz := (Nat.div_add_mod' t sz).symm
    have h1 : (flatK enc sz D.toArray).toList[t]? = some ((enc D.toArray[t / sz]!)[t % sz]!) := by
      simp [flatK, ht]
    have h2 := gen_get hf D (t / sz) (t % sz) hk hr
    rw [← e1] at h2
    rw [h1, h2]
    have h3 : D.toArray[t / sz]! = D[t / sz] := by simp [hk]
    rw [h3]
    have h4 : t % sz < (enc D[t / sz]).length := by rw [hf]; exact hr
    rw [List.getElem?_eq_getElem h4, getElem!_pos (enc D[t / sz]) (t % sz) h4]
  · rw [List.getElem?_eq_none (by simp [flatK]; omega), List.getElem?_eq_none (by rw [flat_len enc sz hf]; omega)]
theorem gen_holds (hf : ∀ x, (enc x).length = sz) (hs : 0 < sz) {w : World} {base n g cap e : Nat} {D : List α} (h : Own w base e sz (.slice (some ⟨g, 0, none⟩) n cap) n (D.flatMap enc)) : HoldsK enc sz w g 0 D.toArray := by
  intro j hj
  have hsz : (flatK enc sz D.toArray).size = (D.flatMap enc).length := by rw [← gen_flat hf hs, Array.length_toList]
  have hj2 : j < (D.flatMap enc).length := by omega
  rw [Nat.zero_add]
  have hadd : (⟨g, 0, none⟩ : Addr).add j = ⟨g, j, none⟩ := by unfold Addr.add; split <;> simp_all
  have h1 := h.cells (g := g) rfl j _ (List.getElem?_eq_getElem hj2)
  rw [hadd] at h1
  have h2 : (flatK enc sz D.toArray)[j]! = (D.flatMap enc)[j] := by
    rw [getElem!_pos (flatK enc sz D.toArray) j hj, ← Array.getElem_toList]
    congr 1
    exact gen_flat hf hs D
  obtain ⟨cs, hb⟩ := h.typed g rfl
  exact ⟨by rw [h1, h2]; rfl, hb.frozen j⟩
theorem gen_putK (hf : ∀ x, (enc x).length = sz) (hs : 0 < sz) {w : World} {base n g cap e m : Nat} {D E : List α} (h : Own w base e sz (.slice (some ⟨g, 0, none⟩) n cap) n (D.flatMap enc)) (hE : E.length = n) :
    Own (putRowK enc sz (Go.Sort.ahead w m) g 0 E.toArray) base e sz (.slice (some ⟨g, 0, none⟩) n cap) n (E.flatMap enc) ∧ Fr (fun k => k = g) w (putRowK enc sz (Go.Sort.ahead w m) g 0 E.toArray) := by
  constructor
  · refine ⟨by rw [flat_len enc sz hf, hE], ?_⟩
    rcases h.2 with ⟨h1, _⟩ | ⟨g', cap', cur, h1, h2, h3, h4, h5, h6, h7⟩
    · cases h1
    · injection h1 with h1 _ h8
      injection h1 with h1
      injection h1 with h1
      subst h1
      subst h8
      refine .inr ⟨g, cap, putCells id 0 (flatK enc sz E.toArray) cur, rfl, h2, ?_, h4, h5, by simpa [putCells] using h6, ?_⟩
      · show ((Go.Sort.ahead w m).heap.modify g (onCells (putCells id 0 (flatK enc sz E.toArray))))[g]? = _
        rw [Array.getElem?_modify, if_pos rfl]
        show (w.heap[g]?).map _ = _
        rw [h3]
        rfl
      · rw [← gen_flat hf hs]
        have hsz : (flatK enc sz E.toArray).size = n * sz := by rw [← Array.length_toList, gen_flat hf hs, flat_len enc sz hf, hE]
        apply List.ext_getElem?
        intro t
        rw [List.getElem?_take]
        by_cases ht : t < n * sz
        · have hc : t < cur.size := by
            have := Nat.mul_le_mul_right sz h4
            omega
          rw [if_pos ht]
          simp only [putCells, Array.getElem?_toList, Array.getElem?_mapIdx, Array.getElem?_eq_getElem hc, Option.map_some]
          rw [if_pos ⟨by omega, by omega⟩, Nat.sub_zero, getElem!_pos (flatK enc sz E.toArray) t (by omega), Array.getElem?_eq_getElem (by omega)]
          rfl
        · rw [if_neg ht, List.getElem?_eq_none (by rw [Array.length_toList]; omega)]
  · refine ⟨rfl, rfl, rfl, ?_, fun k hk hne => ?_⟩
    · show w.heap.size ≤ ((Go.Sort.ahead w m).heap.modify g _).size
      rw [Array.size_modify]
      exact Nat.le_refl _
    · show ((Go.Sort.ahead w m).heap.modify g _)[k]? = _
      rw [Array.getElem?_modify, if_neg (fun h9 => hne h9.symm)]
      rfl
end

end Go.Proofs.Ytkobaidamdffmaa
