/- CellsApart: rows of what was (a key and its cell). -/
import Derived.Test.YtkobaidamdffmaaRc15
namespace Go.Proofs.Ytkobaidamdffmaa
open Go.RowKit Go.Sort
set_option linter.unusedVariables false
set_option linter.unusedSimpArgs false

/-- a key and its cell in memory -/
structure OV where
  k : KV
  c : CV
def OV.cells (x : OV) : List Value := [x.k.v, .int .i64 x.k.p.f, .int .i64 x.k.p.t, x.c.v, .int .i64 x.c.d.s, .int .i64 x.c.d.n, .int .i64 x.c.d.g, .int .i64 x.c.d.h, .bool x.c.d.p, .bool x.c.d.c]
theorem OV.cells10 (x : OV) : x.cells.length = 10 := rfl
def ones (D : List OV) : List Value := D.flatMap OV.cells
theorem ones_app (C D : List OV) : ones (C ++ D) = ones C ++ ones D := List.flatMap_append ..
theorem ones_len (D : List OV) : (ones D).length = D.length * 10 := flat_len _ 10 OV.cells10 D
theorem ones_ok (D : List OV) (h : ∀ x ∈ D, x.k.v.oneCell' = true ∧ x.c.v.oneCell' = true) : ∀ u ∈ ones D, u.oneCell' = true := by
  intro u hu
  simp only [ones, List.mem_flatMap] at hu
  obtain ⟨x, hx, hp⟩ := hu
  simp only [OV.cells, List.mem_cons, List.not_mem_nil, or_false] at hp
  rcases hp with rfl | rfl | rfl | rfl | rfl | rfl | rfl | rfl | rfl | rfl
  · exact (h x hx).1
  · rfl
  · rfl
  · exact (h x hx).2
  all_goals rfl
abbrev on1T : Nat := 51
theorem tyO : SlTy Try.prog 45 on1T 10 104 (.agg #[.slice none 0 0, .int .i64 0, .int .i64 0, .slice none 0 0, .int .i64 0, .int .i64 0, .int .i64 0, .int .i64 0, .bool false, .bool false]) := ⟨Try.underlying45, info_parts (by kernel_rfl), rfl, by omega⟩
theorem one_at {w : World} {B n c : Nat} {A : Option Addr} {S : List OV} (h : Sl w B (.slice A n c) 10 n (ones S)) {k : Nat} (hk : k < n) (hD : S.length = n) :
    ∃ ad, A = some ad ∧ (ad.add (k * 10)).block < B ∧ w.cell? (ad.add (k * 10)) = some (S[k]'(by omega)).k.v ∧
      w.cell? ⟨(ad.add (k * 10)).block, (ad.add (k * 10)).off + 1, none⟩ = some (.int .i64 (S[k]'(by omega)).k.p.f) ∧
      w.cell? ⟨(ad.add (k * 10)).block, (ad.add (k * 10)).off + 2, none⟩ = some (.int .i64 (S[k]'(by omega)).k.p.t) ∧
      w.cell? ⟨(ad.add (k * 10)).block, (ad.add (k * 10)).off + 3, none⟩ = some (S[k]'(by omega)).c.v ∧
      w.cell? ⟨(ad.add (k * 10)).block, (ad.add (k * 10)).off + 4, none⟩ = some (.int .i64 (S[k]'(by omega)).c.d.s) ∧
      w.cell? ⟨(ad.add (k * 10)).block, (ad.add (k * 10)).off + 5, none⟩ = some (.int .i64 (S[k]'(by omega)).c.d.n) ∧
      w.cell? ⟨(ad.add (k * 10)).block, (ad.add (k * 10)).off + 6, none⟩ = some (.int .i64 (S[k]'(by omega)).c.d.g) ∧
      w.cell? ⟨(ad.add (k * 10)).block, (ad.add (k * 10)).off + 7, none⟩ = some (.int .i64 (S[k]'(by omega)).c.d.h) ∧
      w.cell? ⟨(ad.add (k * 10)).block, (ad.add (k * 10)).off + 8, none⟩ = some (.bool (S[k]'(by omega)).c.d.p) ∧
      w.cell? ⟨(ad.add (k * 10)).block, (ad.add (k * 10)).off + 9, none⟩ = some (.bool (S[k]'(by omega)).c.d.c) := by
  obtain ⟨ad, rfl, hb, hh⟩ := h.at_ hk
  rw [ones, part_of OV.cells 10 (fun _ => rfl) S k (by omega)] at hh
  have hg : ∀ j v, (S[k]'(by omega)).cells[j + 1]? = some v → w.cell? ⟨(ad.add (k * 10)).block, (ad.add (k * 10)).off + (j + 1), none⟩ = some v := by
    intro j v hv
    have h9 := hh (j + 1) v hv
    rw [add_add', add_fld ad (k * 10) (j + 1) (by omega)] at h9
    exact h9
  refine ⟨ad, rfl, by rw [add_blk]; exact hb, ?_, hg 0 _ rfl, hg 1 _ rfl, hg 2 _ rfl, hg 3 _ rfl, hg 4 _ rfl, hg 5 _ rfl, hg 6 _ rfl, hg 7 _ rfl, hg 8 _ rfl⟩
  have := hh 0 _ rfl
  rwa [add_add'] at this

/-- while what was is collected -/
structure WasI (w wr : World) (L : List (PK × CV)) (O : List KV) (j : Nat) (M : List OV) (v : Value) : Prop where
  own : Go.Proofs.Ytkobaidamdffmaa.Own wr w.heap.size on1T 10 v M.length (ones M)
  eq : M.map OV.k = O.take j
  ok : ∀ m ∈ M, ∃ c', lk L m.k.p = some c' ∧ c'.d = m.c.d
  acc : ∀ m ∈ M, Go.Proofs.Ytkobaidamdffmaa.Own wr w.heap.size bT 1 m.c.v m.c.d.b.length (bys m.c.d.b) ∧ Bytes8 m.c.d.b
  ky : ∀ x ∈ O, KyO wr 0 x
theorem WasI.below {w wr wz : World} {L : List (PK × CV)} {O : List KV} {j : Nat} {M : List OV} {v : Value} (h : WasI w wr L O j M v) (b : Below wr.heap.size wr wz) : WasI w wz L O j M v :=
  ⟨h.own.below b, h.eq, h.ok, fun m hm => ⟨(h.acc m hm).1.below b, (h.acc m hm).2⟩, fun x hx => (h.ky x hx).below b⟩
theorem WasI.kt {w wr wz : World} {L : List (PK × CV)} {O : List KV} {j : Nat} {M : List OV} {v : Value} (h : WasI w wr L O j M v) (b : Kt wr wz) : WasI w wz L O j M v :=
  ⟨b.own h.own (by decide), h.eq, h.ok, fun m hm => ⟨b.own (h.acc m hm).1 (by decide), (h.acc m hm).2⟩, fun x hx => b.ro (h.ky x hx)⟩
theorem WasI.app {w wr wz : World} {L : List (PK × CV)} {O : List KV} {M : List OV} {v v' : Value} {x : OV} (h : WasI w wr L O M.length M v) (hk : M.length < O.length) (hx : x.k = O[M.length])
    (hc : ∃ c', lk L x.k.p = some c' ∧ c'.d = x.c.d) (ha : Go.Proofs.Ytkobaidamdffmaa.Own wr w.heap.size bT 1 x.c.v x.c.d.b.length (bys x.c.d.b) ∧ Bytes8 x.c.d.b)
    (hp : App wr w.heap.size on1T 10 v (M.length + 1) (ones M ++ ones [x]) v' wz) : WasI w wz L O (M ++ [x]).length (M ++ [x]) v' := by
  have hbt : ∀ g cs fr, wr.heap[g]? = some (.cells cs bT fr) → ¬ v.ownBlock = some g := fun g cs fr hc e => by
    obtain ⟨c2, k2⟩ := h.own.typed g e
    unfold Blk at k2
    rw [k2] at hc
    injection hc with hc
    injection hc with _ hc
    exact absurd hc (by decide)
  have hob : ∀ {n : Nat} {u : Value} {xs : List Value}, Go.Proofs.Ytkobaidamdffmaa.Own wr w.heap.size bT 1 u n xs → Go.Proofs.Ytkobaidamdffmaa.Own wz w.heap.size bT 1 u n xs := fun ho =>
    ho.fr hp.fr (fun g hg => by obtain ⟨cs, hc⟩ := ho.typed g hg; exact hbt g cs _ hc)
  refine ⟨?_, ?_, fun m hm => ?_, fun m hm => ?_, fun y hy => RoB.fr (h.ky y hy) hp.fr hbt⟩
  · rw [ones_app, List.length_append]; exact hp.own
  · rw [List.length_append, List.length_singleton, List.take_succ_eq_append_getElem hk, List.map_append, h.eq]
    simp [hx]
  · rcases List.mem_append.1 hm with h9 | h9
    · exact h.ok m h9
    · rw [List.mem_singleton.1 h9]; exact hc
  · rcases List.mem_append.1 hm with h9 | h9
    · exact ⟨hob (h.acc m h9).1, (h.acc m h9).2⟩
    · rw [List.mem_singleton.1 h9]; exact ⟨hob ha.1, ha.2⟩
end Go.Proofs.Ytkobaidamdffmaa
