/- A slice cut: its parts read as the list's. -/
import Derived.Test.YtkobaidamdffmaaApp
namespace Go.Proofs.Ytkobaidamdffmaa
open Go.RowKit
set_option linter.unusedVariables false
set_option linter.unusedSimpArgs false
theorem _root_.Go.RowKit.Below.drewN {B : Nat} {a w : World} (h : Below B a w) (n : Nat) : Below B a (w.drewN n) := ⟨h.os, h.tape, h.output, h.size, h.block⟩
section
variable {w : World} {B n sz c k : Nat} {A : Option Addr} {cs : List Value}
theorem Sl.inv (h : Sl w B (.slice A n c) sz n cs) : cs.length = n * sz ∧ n ≤ c ∧ c ≤ 9223372036854775807 ∧ (0 < n → ∃ ad, A = some ad ∧ ad.block < B ∧ Has w ad cs) := by
  obtain ⟨h1, A', c', hv, h2, h3, h5⟩ := h
  obtain ⟨rfl, _, rfl⟩ : A = A' ∧ True ∧ c = c' := by injection hv; exact ⟨‹_›, trivial, ‹_›⟩
  exact ⟨h1, h2, h3, h5⟩
theorem Sl.take (h : Sl w B (.slice A n c) sz n cs) (hk : k ≤ n) : Sl w B (.slice A k c) sz k (cs.take (k * sz)) := by
  obtain ⟨h1, h2, h3, h5⟩ := h.inv
  have hle : k * sz ≤ n * sz := Nat.mul_le_mul_right _ hk
  refine ⟨by rw [List.length_take, h1]; omega, A, c, rfl, by omega, h3, fun hp => ?_⟩
  obtain ⟨ad, rfl, hb, hh⟩ := h5 (by omega)
  refine ⟨ad, rfl, hb, fun j u hu => hh j u ?_⟩
  rw [List.getElem?_take] at hu
  split at hu
  · exact hu
  · cases hu
theorem Sl.drop (h : Sl w B (.slice A n c) sz n cs) (hk : k ≤ n) : Sl w B (.slice (A.map (·.add (k * sz))) (n - k) (c - k)) sz (n - k) (cs.drop (k * sz)) := by
  obtain ⟨h1, h2, h3, h5⟩ := h.inv
  refine ⟨by rw [List.length_drop, h1, Nat.sub_mul], _, _, rfl, by omega, by omega, fun hp => ?_⟩
  obtain ⟨ad, rfl, hb, hh⟩ := h5 (by omega)
  refine ⟨_, rfl, by rw [add_blk]; exact hb, fun j u hu => ?_⟩
  rw [add_add']
  exact hh _ u (by rwa [List.getElem?_drop] at hu)
/-- whatever address the empty rest has -/
theorem Sl.drop' (h : Sl w B (.slice A n c) sz n cs) (hk : k ≤ n) : Sl w B (.slice (if c = k then A else A.map (·.add (k * sz))) (n - k) (c - k)) sz (n - k) (cs.drop (k * sz)) := by
  obtain ⟨h1, h2, h3, h5⟩ := h.inv
  split
  · have : n = k := by omega
    subst this
    refine ⟨by rw [List.length_drop, h1]; simp, A, c - n, rfl, by omega, by omega, fun hp => by omega⟩
  · exact h.drop hk
theorem Sl.drew {v : Value} (h : Sl w B v sz n cs) : Sl w.drew B v sz n cs := h
theorem Sl.put_far {ad : Addr} {p : Addr} (h : Sl w B (.slice A n c) sz n cs) (hA : A = some ad) (hne : ad.block ≠ p.block) (u : Value) : Sl (w.setCell p u) B (.slice A n c) sz n cs := by
  obtain ⟨h1, h2, h3, h5⟩ := h.inv
  refine ⟨h1, A, c, rfl, h2, h3, fun hp => ?_⟩
  obtain ⟨ad', had, hb, hh⟩ := h5 hp
  rw [hA] at had
  injection had with had
  subst had
  exact ⟨ad, hA, hb, hh.to (Below.heap_setCell w p u _ hne)⟩
theorem Own.pos {base e : Nat} {v : Value} (h : Own w base e sz v n cs) (hn : 0 < n) : ∃ g cap, v = .slice (some ⟨g, 0, none⟩) n cap ∧ n ≤ cap ∧ cap ≤ 9223372036854775807 ∧ base ≤ g ∧ g < w.heap.size := by
  rcases h.2 with ⟨_, h2⟩ | ⟨g, cap, cur, rfl, hb, hg, hc, hm, _⟩
  · omega
  · exact ⟨g, cap, rfl, hc, by unfold maxLen at hm; omega, hb, (Array.getElem?_eq_some_iff.1 hg).1⟩
end
theorem own_eq {g o n c k : Nat} (h : (Value.slice (some ⟨g, o, none⟩) n c).ownBlock = some k) : g = k := Option.some.inj h
theorem flat_take {α : Type} (f : α → List Value) (sz : Nat) (hf : ∀ x, (f x).length = sz) : ∀ (xs : List α) (k : Nat), (xs.flatMap f).take (k * sz) = (xs.take k).flatMap f
  | [], k => by simp
  | x :: xs, 0 => by simp
  | x :: xs, k + 1 => by
    rw [List.flatMap_cons, List.take_succ_cons, List.flatMap_cons, ← flat_take f sz hf xs k, List.take_append, hf]
    have e : (k + 1) * sz - sz = k * sz := by rw [Nat.add_mul]; omega
    rw [e, List.take_of_length_le (by rw [hf, Nat.add_mul]; omega)]
theorem flat_drop {α : Type} (f : α → List Value) (sz : Nat) (hf : ∀ x, (f x).length = sz) : ∀ (xs : List α) (k : Nat), (xs.flatMap f).drop (k * sz) = (xs.drop k).flatMap f
  | [], k => by simp
  | x :: xs, 0 => by simp
  | x :: xs, k + 1 => by
    rw [List.flatMap_cons, List.drop_succ_cons, ← flat_drop f sz hf xs k]
    have e : (k + 1) * sz = (f x).length + k * sz := by rw [hf, Nat.add_mul]; omega
    rw [e, List.drop_append, List.drop_of_length_le (by omega), List.nil_append]
    congr 1
    omega
end Go.Proofs.Ytkobaidamdffmaa
