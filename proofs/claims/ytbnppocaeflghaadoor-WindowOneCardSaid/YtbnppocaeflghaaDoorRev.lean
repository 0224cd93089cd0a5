/- slices.Reverse at windows: off the shelf, in the words of 'Own'. -/
import Derived.Test.YtbnppocaeflghaaDoorWin
import Derived.Shelf.SlicesQ.Reverse
import Derived.Ground.SlgnProg
namespace Go.Proofs
open Go.Shelf Go.Lib
def Tryd.revW_ren : Go.Shelf.Ren := ⟨fun | 35 => 38 | n => n, fun | 22 => 28 | 23 => 33 | 3 => 3 | 4 => 4 | 0 => 0 | n => n, fun | n => n⟩
theorem Tryd.revW : Go.Proofs.SlLaysE0.n35 Tryd.prog Tryd.revW_ren := {
  mixed := by kernel_rfl
  f35 := ⟨Tryd.f38.name, by decide, Tryd.func38.trans (congrArg some (by kernel_rfl))⟩
  t0 := Tryd.underlying0
  a0 := Tryd.isAgg0
  z0 := Tryd.sizeOf0
  v0 := Tryd.zeroValue0
  t3 := Tryd.underlying3
  a3 := Tryd.isAgg3
  z3 := Tryd.sizeOf3
  v3 := Tryd.zeroValue3
  t4 := Tryd.underlying4
  a4 := Tryd.isAgg4
  z4 := Tryd.sizeOf4
  v4 := Tryd.zeroValue4
  t22 := Tryd.underlying28
  a22 := Tryd.isAgg28
  z22 := Tryd.sizeOf28
  v22 := Tryd.zeroValue28 }
end Go.Proofs
namespace Go.Proofs.YtbnppocaeflghaaDoor
open Go.RowKit Go.Sort
set_option linter.unusedVariables false
set_option linter.unusedSimpArgs false

instance : Inhabited Win := ⟨⟨0, 0⟩⟩
theorem wins_get (D : List Win) (k r : Nat) (hk : k < D.length) (hr : r < 2) : (wins D)[k * 2 + r]? = (D[k].cells)[r]? := by
  have h := part_of Win.cells 2 (fun _ => rfl) D k hk
  rw [← h, List.getElem?_take, if_pos hr, List.getElem?_drop]
  rfl
theorem flat_wins (D : List Win) : (flatK Win.cells 2 D.toArray).toList = wins D := by
  apply List.ext_getElem?
  intro t
  by_cases ht : t < D.length * 2
  · have hk : t / 2 < D.length := by omega
    have hr : t % 2 < 2 := by omega
    have e1 : t = t / 2 * 2 + t % 2 := by omega
    have h1 : (flatK Win.cells 2 D.toArray).toList[t]? = some ((Win.cells D.toArray[t / 2]!)[t % 2]!) := by
      simp [flatK, ht]
    have h2 := wins_get D (t / 2) (t % 2) hk hr
    rw [← e1] at h2
    rw [h1, h2]
    have h3 : D.toArray[t / 2]! = D[t / 2] := by simp [hk]
    rw [h3]
    have h4 : t % 2 < (D[t / 2].cells).length := by rw [Win.cells2]; exact hr
    rw [List.getElem?_eq_getElem h4, getElem!_pos (Win.cells D[t / 2]) (t % 2) h4]
  · rw [List.getElem?_eq_none (by simp; omega), List.getElem?_eq_none (by rw [wins_len]; omega)]
theorem holdsK_own {w : World} {base n g cap e : Nat} {D : List Win} (h : Own w base e 2 (.slice (some ⟨g, 0, none⟩) n cap) n (wins D)) : HoldsK Win.cells 2 w g 0 D.toArray := by
  intro j hj
  have hsz : (flatK Win.cells 2 D.toArray).size = (wins D).length := by rw [← flat_wins, Array.length_toList]
  have hj2 : j < (wins D).length := by omega
  rw [Nat.zero_add]
  have hadd : (⟨g, 0, none⟩ : Addr).add j = ⟨g, j, none⟩ := by unfold Addr.add; split <;> simp_all
  have h1 := h.cells (g := g) rfl j _ (List.getElem?_eq_getElem hj2)
  rw [hadd] at h1
  have h2 : (flatK Win.cells 2 D.toArray)[j]! = (wins D)[j] := by
    rw [getElem!_pos (flatK Win.cells 2 D.toArray) j hj, ← Array.getElem_toList]
    congr 1
    exact flat_wins D
  obtain ⟨cs, hb⟩ := h.typed g rfl
  exact ⟨by rw [h1, h2]; rfl, hb.frozen j⟩
theorem own_putK {w : World} {base n g cap e m : Nat} {D E : List Win} (h : Own w base e 2 (.slice (some ⟨g, 0, none⟩) n cap) n (wins D)) (hn : D.length = n) (hE : E.length = n) :
    Own (putRowK Win.cells 2 (Go.Sort.ahead w m) g 0 E.toArray) base e 2 (.slice (some ⟨g, 0, none⟩) n cap) n (wins E) ∧ Fr (fun k => k = g) w (putRowK Win.cells 2 (Go.Sort.ahead w m) g 0 E.toArray) := by
  constructor
  · refine ⟨by rw [wins_len, hE], ?_⟩
    rcases h.2 with ⟨h1, _⟩ | ⟨g', cap', cur, h1, h2, h3, h4, h5, h6, h7⟩
    · cases h1
    · injection h1 with h1 _ h8
      injection h1 with h1
      injection h1 with h1
      subst h1
      subst h8
      refine .inr ⟨g, cap, putCells id 0 (flatK Win.cells 2 E.toArray) cur, rfl, h2, ?_, h4, h5, by simpa [putCells] using h6, ?_⟩
      · show ((Go.Sort.ahead w m).heap.modify g (onCells (putCells id 0 (flatK Win.cells 2 E.toArray))))[g]? = _
        rw [Array.getElem?_modify, if_pos rfl]
        show (w.heap[g]?).map _ = _
        rw [h3]
        rfl
      · rw [← flat_wins]
        have hs : (flatK Win.cells 2 E.toArray).size = n * 2 := by rw [← Array.length_toList, flat_wins, wins_len, hE]
        apply List.ext_getElem?
        intro t
        rw [List.getElem?_take]
        by_cases ht : t < n * 2
        · have hc : t < cur.size := by
            have := Nat.mul_le_mul_right 2 h4
            omega
          rw [if_pos ht]
          simp only [putCells, Array.getElem?_toList, Array.getElem?_mapIdx, Array.getElem?_eq_getElem hc, Option.map_some]
          rw [if_pos ⟨by omega, by omega⟩, Nat.sub_zero, getElem!_pos (flatK Win.cells 2 E.toArray) t (by omega), Array.getElem?_eq_getElem (by omega)]
          rfl
        · rw [if_neg ht, List.getElem?_eq_none (by rw [Array.length_toList]; omega)]
  · refine ⟨rfl, rfl, rfl, ?_, fun k hk hne => ?_⟩
    · show w.heap.size ≤ ((Go.Sort.ahead w m).heap.modify g _).size
      rw [Array.size_modify]
      exact Nat.le_refl _
    · show ((Go.Sort.ahead w m).heap.modify g _)[k]? = _
      rw [Array.getElem?_modify, if_neg (fun h9 => hne h9.symm)]
      rfl
theorem rev_any (v : Value) (D : List Win) (base : Nat) (w : World) (h : Own w base wT 2 v D.length (wins D)) (hmax : D.length ≤ 9223372036854775807) :
    Calls Tryd.prog 38 #[v] w fun e w' => e = .returned (.tuple #[]) ∧ Own w' base wT 2 v D.length (wins D.reverse) ∧ Fr (fun k => v.ownBlock = some k) w w' := by
  rcases h.2 with ⟨rfl, h0⟩ | ⟨g, cap, cur, rfl, _⟩
  · have hD : D = [] := List.eq_nil_of_length_eq_zero h0
    subst hD
    refine (AnyQ.slices_Reverse_empty Tryd.revW none 0 w).mono ?_
    rintro e w' ⟨rfl, rfl⟩
    exact ⟨rfl, h, Fr.refl _ _⟩
  · refine (AnyQ.slices_Reverse Tryd.revW 2 Tryd.isAgg33 Tryd.sizeOf33 Win.cells (fun _ => rfl) (fun x v hv => by simp [Win.cells] at hv; rcases hv with rfl | rfl <;> rfl) g 0 cap D.toArray w (holdsK_own h) (by simpa using hmax)).mono ?_
    rintro e w' ⟨rfl, m, rfl⟩
    have h9 := own_putK (m := m) (E := D.reverse) h rfl (by rw [List.length_reverse])
    have h10 : D.toArray.reverse = D.reverse.toArray := by simp
    rw [h10]
    exact ⟨rfl, h9.1, h9.2.mono (fun k _ hk => by subst hk; rfl)⟩

end Go.Proofs.YtbnppocaeflghaaDoor
