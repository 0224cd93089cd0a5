/- Rows of the reference's cells in memory; plain facts on a table's length. -/
import Derived.Test.YtkobaidamdffmaaLc15
namespace Go.Proofs.Ytkobaidamdffmaa
open Go.RowKit Go.Sort
set_option linter.unusedVariables false
set_option linter.unusedSimpArgs false

/-- a cell of the reference in memory -/
structure RC where
  k : Value
  kb : List Int
  f : Int
  t : Int
  a : Value
  d : CD
def RC.cells (x : RC) : List Value := [x.k, .int .i64 x.f, .int .i64 x.t, x.a, .int .i64 x.d.s, .int .i64 x.d.n, .int .i64 x.d.g, .int .i64 x.d.h, .bool x.d.p, .bool x.d.c]
def rcs (D : List RC) : List Value := D.flatMap RC.cells
/-- a cell as an argument -/
structure RCQ (w : World) (x : RC) : Prop where
  ks : Sl w w.heap.size x.k 1 x.kb.length (bys x.kb)
  kn : x.kb.length ≤ 140737488355328
  k8 : Bytes8 x.kb
  ac : Sl w w.heap.size x.a 1 x.d.b.length (bys x.d.b)
  an : x.d.b.length ≤ 140737488355328
  a8 : Bytes8 x.d.b
theorem rcV_eq (x : RC) : Value.agg x.cells.toArray = rcV x.k x.f x.t x.a x.d.s x.d.n x.d.g x.d.h x.d.p x.d.c := rfl
theorem rc_at {w : World} {B n c : Nat} {A : Option Addr} {S : List RC} (h : Sl w B (.slice A n c) 10 n (rcs S)) {k : Nat} (hk : k < n) (hD : S.length = n) :
    ∃ ad, A = some ad ∧ (ad.add (k * 10)).block < B ∧ w.cell? (ad.add (k * 10)) = some (S[k]'(by omega)).k ∧
      w.cell? ⟨(ad.add (k * 10)).block, (ad.add (k * 10)).off + 1, none⟩ = some (.int .i64 (S[k]'(by omega)).f) ∧
      w.cell? ⟨(ad.add (k * 10)).block, (ad.add (k * 10)).off + 2, none⟩ = some (.int .i64 (S[k]'(by omega)).t) ∧
      w.cell? ⟨(ad.add (k * 10)).block, (ad.add (k * 10)).off + 3, none⟩ = some (S[k]'(by omega)).a ∧
      w.cell? ⟨(ad.add (k * 10)).block, (ad.add (k * 10)).off + 4, none⟩ = some (.int .i64 (S[k]'(by omega)).d.s) ∧
      w.cell? ⟨(ad.add (k * 10)).block, (ad.add (k * 10)).off + 5, none⟩ = some (.int .i64 (S[k]'(by omega)).d.n) ∧
      w.cell? ⟨(ad.add (k * 10)).block, (ad.add (k * 10)).off + 6, none⟩ = some (.int .i64 (S[k]'(by omega)).d.g) ∧
      w.cell? ⟨(ad.add (k * 10)).block, (ad.add (k * 10)).off + 7, none⟩ = some (.int .i64 (S[k]'(by omega)).d.h) ∧
      w.cell? ⟨(ad.add (k * 10)).block, (ad.add (k * 10)).off + 8, none⟩ = some (.bool (S[k]'(by omega)).d.p) ∧
      w.cell? ⟨(ad.add (k * 10)).block, (ad.add (k * 10)).off + 9, none⟩ = some (.bool (S[k]'(by omega)).d.c) := by
  obtain ⟨ad, rfl, hb, hh⟩ := h.at_ hk
  rw [rcs, part_of RC.cells 10 (fun _ => rfl) S k (by omega)] at hh
  have hg : ∀ j v, (S[k]'(by omega)).cells[j + 1]? = some v → w.cell? ⟨(ad.add (k * 10)).block, (ad.add (k * 10)).off + (j + 1), none⟩ = some v := by
    intro j v hv
    have h9 := hh (j + 1) v hv
    rw [add_add', add_fld ad (k * 10) (j + 1) (by omega)] at h9
    exact h9
  refine ⟨ad, rfl, by rw [add_blk]; exact hb, ?_, hg 0 _ rfl, hg 1 _ rfl, hg 2 _ rfl, hg 3 _ rfl, hg 4 _ rfl, hg 5 _ rfl, hg 6 _ rfl, hg 7 _ rfl, hg 8 _ rfl⟩
  have := hh 0 _ rfl
  rwa [add_add'] at this

section
variable {α β : Type} [DecidableEq α]
theorem put_len : ∀ (L : List (α × β)) (a : α) (v : β), L.length ≤ (putM L a v).length ∧ (putM L a v).length ≤ L.length + 1
  | [], a, v => by simp [putM]
  | (b, u) :: L, a, v => by
    have h := put_len L a v
    unfold putM
    split
    · simp
    · simp only [List.length_cons]; omega
theorem del_len : ∀ (L : List (α × β)) (a : α), L.length ≤ (delM L a).length + 1 ∧ (delM L a).length ≤ L.length
  | [], a => by simp [delM]
  | (b, u) :: L, a => by
    have h := del_len L a
    unfold delM
    split
    · simp
    · simp only [List.length_cons]; omega
theorem lk_memE : ∀ {L : List (α × β)} {a : α}, a ∈ L.map (·.1) → ∃ u, lk L a = some u ∧ (a, u) ∈ L
  | [], a, h => by simp at h
  | (b, u) :: L, a, h => by
    unfold lk
    split
    · next h1 => exact ⟨u, rfl, by rw [h1]; exact List.mem_cons_self⟩
    · next h1 =>
      rw [List.map_cons, List.mem_cons] at h
      obtain ⟨v, h2, h3⟩ := lk_memE (h.resolve_left h1)
      exact ⟨v, h2, List.mem_cons_of_mem _ h3⟩
end
/-- the order of cells is nought just at the same key -/
theorem ordC_zero (x y : Win) (D E : List Int) : ordC x y D E = 0 ↔ x = y ∧ D = E := by
  unfold ordC
  split
  · next h => rw [bytesR_zero]; simp [h]
  · next h =>
    split <;> simp [h]
end Go.Proofs.Ytkobaidamdffmaa
