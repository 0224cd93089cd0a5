/- CellsApart: rows of what was (a key and its cell). / An argument's reading opened to cells, type by type: whole numbers, bools, strings, structs, slices of them. / An argument's reading opened to cells, with what the form's reach and the reading's bulk tell of its size. / How the arguments of the laws of layer 15 read. / CellsDecodes at its arguments. -/
import Derived.Test.YtkobaidamdffmaaQCellsDecodes15
import Derived.Test.YtkobaidamdffmaaQCellsDecodes00
import Derived.Deep.Slices
import Derived.Deep.Fields
import Derived.ProofKit
import Derived.OpenShut
import Derived.ShutString
import Derived.SizedLaws
import Derived.ChangeOld
import Derived.Test.YtkobaidamdffmaaRows
import Derived.JoinedCond
import Derived.Deep.CondSized
import Derived.Test.YtkobaidamdffmaaQCellsDecodes29

namespace Go.Proofs.Ytkobaidamdffmaa
open Go.RowKit Go.Sort
set_option linter.unusedVariables false
set_option linter.unusedSimpArgs false

/-- a key and its cell in memory -/
structure OV where
  k : KV
  c : CV
def OV.cells (x : OV) : List Value := [x.k.v, .int .i64 x.k.p.f, .int .i64 x.k.p.t, x.c.v, .int .i64 x.c.d.s, .int .i64 x.c.d.n, .int .i64 x.c.d.g, .int .i64 x.c.d.h, .bool x.c.d.p, .bool x.c.d.c]
theorem OV.cells10 (x : OV) : x.cells.length = 10 := rfl
def ones (D : List OV) : List Value := D.flatMap OV.cells
theorem ones_app (C D : List OV) : ones (C ++ D) = ones C ++ ones D := List.flatMap_append ..
theorem ones_len (D : List OV) : (ones D).length = D.length * 10 := flat_len _ 10 OV.cells10 D
theorem ones_ok (D : List OV) (h : ∀ x ∈ D, x.k.v.oneCell' = true ∧ x.c.v.oneCell' = true) : ∀ u ∈ ones D, u.oneCell' = true := by
  intro u hu
  simp only [ones, List.mem_flatMap] at hu
  obtain ⟨x, hx, hp⟩ := hu
  simp only [OV.cells, List.mem_cons, List.not_mem_nil, or_false] at hp
  rcases hp with rfl | rfl | rfl | rfl | rfl | rfl | rfl | rfl | rfl | rfl
  · exact (h x hx).1
  · rfl
  · rfl
  · exact (h x hx).2
  all_goals rfl
abbrev on1T : Nat := 51
theorem tyO : SlTy Try.prog 45 on1T 10 104 (.agg #[.slice none 0 0, .int .i64 0, .int .i64 0, .slice none 0 0, .int .i64 0, .int .i64 0, .int .i64 0, .int .i64 0, .bool false, .bool false]) := ⟨Try.underlying45, info_parts (by kernel_rfl), rfl, by omega⟩
theorem one_at {w : World} {B n c : Nat} {A : Option Addr} {S : List OV} (h : Sl w B (.slice A n c) 10 n (ones S)) {k : Nat} (hk : k < n) (hD : S.length = n) :
    ∃ ad, A = some ad ∧ (ad.add (k * 10)).block < B ∧ w.cell? (ad.add (k * 10)) = some (S[k]'(by omega)).k.v ∧
      w.cell? ⟨(ad.add (k * 10)).block, (ad.add (k * 10)).off + 1, none⟩ = some (.int .i64 (S[k]'(by omega)).k.p.f) ∧
      w.cell? ⟨(ad.add (k * 10)).block, (ad.add (k * 10)).off + 2, none⟩ = some (.int .i64 (S[k]'(by omega)).k.p.t) ∧
      w.cell? ⟨(ad.add (k * 10)).block, (ad.add (k * 10)).off + 3, none⟩ = some (S[k]'(by omega)).c.v ∧
      w.cell? ⟨(ad.add (k * 10)).block, (ad.add (k * 10)).off + 4, none⟩ = some (.int .i64 (S[k]'(by omega)).c.d.s) ∧
      w.cell? ⟨(ad.add (k * 10)).block, (ad.add (k * 10)).off + 5, none⟩ = some (.int .i64 (S[k]'(by omega)).c.d.n) ∧
      w.cell? ⟨(ad.add (k * 10)).block, (ad.add (k * 10)).off + 6, none⟩ = some (.int .i64 (S[k]'(by omega)).c.d.g) ∧
      w.cell? ⟨(ad.add (k * 10)).block, (ad.add (k * 10)).off + 7, none⟩ = some (.int .i64 (S[k]'(by omega)).c.d.h) ∧
      w.cell? ⟨(ad.add (k * 10)).block, (ad.add (k * 10)).off + 8, none⟩ = some (.bool (S[k]'(by omega)).c.d.p) ∧
      w.cell? ⟨(ad.add (k * 10)).block, (ad.add (k * 10)).off + 9, none⟩ = some (.bool (S[k]'(by omega)).c.d.c) := by
  obtain ⟨ad, rfl, hb, hh⟩ := h.at_ hk
  rw [ones, part_of OV.cells 10 (fun _ => rfl) S k (by omega)] at hh
  have hg : ∀ j v, (S[k]'(by omega)).cells[j + 1]? = some v → w.cell? ⟨(ad.add (k * 10)).block, (ad.add (k * 10)).off + (j + 1), none⟩ = some v := by
    intro j v hv
    have h9 := hh (j + 1) v hv
    rw [add_add', add_fld ad (k * 10) (j + 1) (by omega)] at h9
    exact h9
  refine ⟨ad, rfl, by rw [add_blk]; exact hb, ?_, hg 0 _ rfl, hg 1 _ rfl, hg 2 _ rfl, hg 3 _ rfl, hg 4 _ rfl, hg 5 _ rfl, hg 6 _ rfl, hg 7 _ rfl, hg 8 _ rfl⟩
  have := hh 0 _ rfl
  rwa [add_add'] at this

/-- while what was is collected -/
structure WasI (w wr : World) (L : List (PK × CV)) (O : List KV) (j : Nat) (M : List OV) (v : Value) : Prop where
  own : Go.Proofs.Ytkobaidamdffmaa.Own wr w.heap.size on1T 10 v M.length (ones M)
  eq : M.map OV.k = O.take j
  ok : ∀ m ∈ M, ∃ c', lk L m.k.p = some c' ∧ c'.d = m.c.d
  acc : ∀ m ∈ M, Go.Proofs.Ytkobaidamdffmaa.Own wr w.heap.size bT 1 m.c.v m.c.d.b.length (bys m.c.d.b) ∧ Bytes8 m.c.d.b
  ky : ∀ x ∈ O, KyO wr 0 x
theorem WasI.below {w wr wz : World} {L : List (PK × CV)} {O : List KV} {j : Nat} {M : List OV} {v : Value} (h : WasI w wr L O j M v) (b : Below wr.heap.size wr wz) : WasI w wz L O j M v :=
  ⟨h.own.below b, h.eq, h.ok, fun m hm => ⟨(h.acc m hm).1.below b, (h.acc m hm).2⟩, fun x hx => (h.ky x hx).below b⟩
theorem WasI.kt {w wr wz : World} {L : List (PK × CV)} {O : List KV} {j : Nat} {M : List OV} {v : Value} (h : WasI w wr L O j M v) (b : Kt wr wz) : WasI w wz L O j M v :=
  ⟨b.own h.own (by decide), h.eq, h.ok, fun m hm => ⟨b.own (h.acc m hm).1 (by decide), (h.acc m hm).2⟩, fun x hx => b.ro (h.ky x hx)⟩
theorem WasI.app {w wr wz : World} {L : List (PK × CV)} {O : List KV} {M : List OV} {v v' : Value} {x : OV} (h : WasI w wr L O M.length M v) (hk : M.length < O.length) (hx : x.k = O[M.length])
    (hc : ∃ c', lk L x.k.p = some c' ∧ c'.d = x.c.d) (ha : Go.Proofs.Ytkobaidamdffmaa.Own wr w.heap.size bT 1 x.c.v x.c.d.b.length (bys x.c.d.b) ∧ Bytes8 x.c.d.b)
    (hp : App wr w.heap.size on1T 10 v (M.length + 1) (ones M ++ ones [x]) v' wz) : WasI w wz L O (M ++ [x]).length (M ++ [x]) v' := by
  have hbt : ∀ g cs fr, wr.heap[g]? = some (.cells cs bT fr) → ¬ v.ownBlock = some g := fun g cs fr hc e => by
    obtain ⟨c2, k2⟩ := h.own.typed g e
    unfold Blk at k2
    rw [k2] at hc
    injection hc with hc
    injection hc with _ hc
    exact absurd hc (by decide)
  have hob : ∀ {n : Nat} {u : Value} {xs : List Value}, Go.Proofs.Ytkobaidamdffmaa.Own wr w.heap.size bT 1 u n xs → Go.Proofs.Ytkobaidamdffmaa.Own wz w.heap.size bT 1 u n xs := fun ho =>
    ho.fr hp.fr (fun g hg => by obtain ⟨cs, hc⟩ := ho.typed g hg; exact hbt g cs _ hc)
  refine ⟨?_, ?_, fun m hm => ?_, fun m hm => ?_, fun y hy => RoB.fr (h.ky y hy) hp.fr hbt⟩
  · rw [ones_app, List.length_append]; exact hp.own
  · rw [List.length_append, List.length_singleton, List.take_succ_eq_append_getElem hk, List.map_append, h.eq]
    simp [hx]
  · rcases List.mem_append.1 hm with h9 | h9
    · exact h.ok m h9
    · rw [List.mem_singleton.1 h9]; exact hc
  · rcases List.mem_append.1 hm with h9 | h9
    · exact ⟨hob (h.acc m h9).1, (h.acc m h9).2⟩
    · rw [List.mem_singleton.1 h9]; exact ⟨hob ha.1, ha.2⟩
end Go.Proofs.Ytkobaidamdffmaa

namespace Go.Proofs.Ytkobaidamdffmaa
open Go.RowKit Go.ChangeShapes Go.WideShapes Go.Deep
set_option linter.unusedVariables false
set_option linter.unusedSimpArgs false

section
variable {H : Type} (enc : TypeId × Value → H) (P : Program) (w : World)

/-- What reads as a datum of type t are the cells E a of some a with Q a. -/
def Reads1 (t : TypeId) {α : Type} (E : α → List Value) (Q : α → Prop) : Prop :=
  ∀ (fuel : Nat) (cs : List Value) (x : DataW H × List MemPlace), DataW.trod enc P w 0 (fun _ => true) true fuel t cs = some x → ∃ a, cs = E a ∧ Q a

/-- The same for the fields fs of a struct, those from cell off on. -/
def ReadsFs (fs : List Field) (off tot : Nat) {α : Type} (E : α → List Value) (Q : α → Prop) : Prop :=
  ∀ cs : List Value, (∀ f ∈ fs, ∃ n y, DataW.trod enc P w 0 (fun _ => true) true n f.type ((cs.drop f.offset).take (P.cellsOf f.type)) = some y) → ∃ a, (cs.drop off).take tot = E a ∧ Q a
end

section
variable {H : Type} {enc : TypeId × Value → H} {P : Program} {w : World} {t : TypeId} {α β : Type} {E : α → List Value} {Q : α → Prop} {E' : β → List Value} {Q' : β → Prop}
theorem Reads1.map (h : Reads1 enc P w t E Q) (f : α → β) (hE : ∀ a, E a = E' (f a)) (hQ : ∀ a, Q a → Q' (f a)) : Reads1 enc P w t E' Q' := by
  intro fuel cs x hx
  obtain ⟨a, rfl, ha⟩ := h fuel cs x hx
  exact ⟨f a, hE a, hQ a ha⟩
theorem reads_int {k : IntKind} (ht : P.underlying t = some (.int k)) : Reads1 enc P w t (fun n : Int => [.int k n]) (fun n => (Lit.int k n).wf = true) := by
  intro fuel cs x hx
  obtain ⟨n, rfl, _, hn⟩ := DataW.trod_int ht hx
  exact ⟨n, rfl, hn⟩
theorem reads_bool (ht : P.underlying t = some .bool) : Reads1 enc P w t (fun b : Bool => [.bool b]) (fun _ => True) := by
  intro fuel cs x hx
  obtain ⟨n, rfl, _⟩ := DataW.trod_bool ht hx
  exact ⟨n, rfl, trivial⟩
theorem reads_fnil (off : Nat) : ReadsFs enc P w [] off 0 (fun _ : Unit => []) (fun _ => True) := fun cs _ => ⟨(), by simp, trivial⟩
theorem reads_fcons {f : Field} {fs : List Field} {off tot n : Nat} (h1 : Reads1 enc P w f.type E Q) (ho : f.offset = off) (hc : P.cellsOf f.type = n) (h2 : ReadsFs enc P w fs (off + n) tot E' Q') :
    ReadsFs enc P w (f :: fs) off (n + tot) (fun p : α × β => E p.1 ++ E' p.2) (fun p => Q p.1 ∧ Q' p.2) := by
  intro cs hall
  obtain ⟨m, y, hy⟩ := hall f (by simp)
  rw [ho, hc] at hy
  obtain ⟨a, ha, qa⟩ := h1 m _ y hy
  obtain ⟨b, hb, qb⟩ := h2 cs (fun g hg => hall g (by simp [hg]))
  refine ⟨(a, b), ?_, qa, qb⟩
  simp only
  rw [← ha, ← hb, ← List.drop_drop, List.take_add]
theorem reads_f1 {f : Field} {fs : List Field} {off tot : Nat} (h1 : Reads1 enc P w f.type E Q) (ho : f.offset = off) (hc : P.cellsOf f.type = 1) (h2 : ReadsFs enc P w fs (off + 1) tot E' Q') :
    ReadsFs enc P w (f :: fs) off (1 + tot) (fun p : α × β => E p.1 ++ E' p.2) (fun p => Q p.1 ∧ Q' p.2) := reads_fcons h1 ho hc h2
theorem reads_struct {fs : Array Field} (ht : P.underlying t = some (.struct fs)) {tot : Nat} (hc : P.cellsOf t = tot) (h : ReadsFs enc P w fs.toList 0 tot E Q) : Reads1 enc P w t E Q := by
  intro fuel cs x hx
  obtain ⟨xs, n, _, _, hl, hxl, hf⟩ := DataW.trod_struct ht hx
  obtain ⟨a, ha, qa⟩ := h cs (fun f hf' => by
    obtain ⟨i, hi, he⟩ := List.getElem_of_mem hf'
    have h1 : fs[i]? = some f := by
      rw [← he]
      simp
    have h2 := hf i f h1
    have h3 : i < xs.length := by
      rw [hxl]
      simpa using hi
    rw [List.getElem?_eq_getElem h3] at h2
    exact ⟨n, _, h2⟩)
  refine ⟨a, ?_, qa⟩
  rw [← ha, List.drop_zero, List.take_of_length_le (by omega)]

theorem choose_list {γ : Type} (R : Nat → γ → Prop) : ∀ n, (∀ k, k < n → ∃ a, R k a) → ∃ l : List γ, l.length = n ∧ ∀ k (hk : k < l.length), R k l[k]
  | 0, _ => ⟨[], rfl, fun k hk => by simp at hk⟩
  | n + 1, h => by
    obtain ⟨l, hl, hr⟩ := choose_list R n (fun k hk => h k (by omega))
    obtain ⟨a, ha⟩ := h n (by omega)
    refine ⟨l ++ [a], by simp [hl], fun k hk => ?_⟩
    by_cases hkn : k < l.length
    · rw [List.getElem_append_left hkn]
      exact hr k hkn
    · have : k = n := by simp at hk; omega
      subst this
      subst hl
      simpa using ha

theorem flat_at {γ : Type} (f : γ → List Value) (sz : Nat) (hf : ∀ x, (f x).length = sz) (xs : List γ) (j : Nat) (u : Value) (hj : (xs.flatMap f)[j]? = some u) :
    ∃ (k : Nat) (hk : k < xs.length) (i : Nat), i < sz ∧ j = k * sz + i ∧ (f xs[k])[i]? = some u := by
  have hlt : j < xs.length * sz := by
    rw [← flat_len f sz hf]
    exact (List.getElem?_eq_some_iff.1 hj).1
  have hs : 0 < sz := by
    rcases Nat.eq_zero_or_pos sz with h | h
    · subst h; simp at hlt
    · exact h
  have hk : j / sz < xs.length := (Nat.div_lt_iff_lt_mul hs).2 hlt
  refine ⟨j / sz, hk, j % sz, Nat.mod_lt _ hs, ?_, ?_⟩
  · rw [Nat.mul_comm]; exact (Nat.div_add_mod j sz).symm
  · rw [← part_of f sz hf xs _ hk, List.getElem?_take, if_pos (Nat.mod_lt _ hs), List.getElem?_drop]
    rw [Nat.mul_comm, Nat.div_add_mod]
    exact hj

/-- a slice of what reads -/
theorem reads_slice {e : TypeId} {sz : Nat} (ht : P.underlying t = some (.slice e)) (hc : P.cellsOf e = sz) (hE : ∀ a, (E a).length = sz) (hs : 0 < sz) (h : Reads1 enc P w e E Q) :
    Reads1 enc P w t (fun s : Value × List α => [s.1]) (fun s => Sl w w.heap.size s.1 sz s.2.length (s.2.flatMap E) ∧ ∀ a ∈ s.2, Q a) := by
  intro fuel cs x hx
  rcases open_slice ht hx with ⟨rfl, _⟩ | ⟨a, len, cap, m, n, D, Pl, rfl, _, hl, hm, hmm, _, hel⟩
  · exact ⟨(.slice none 0 0, []), rfl, Sl.nil _ _ _, by simp⟩
  · have hm2 : len ≤ m := by rw [hmm]; split <;> omega
    obtain ⟨xs, hxl, hxs⟩ := choose_list (fun k a' => Q a' ∧ ∀ i, i < sz → w.cell? ((a.add (k * sz)).add i) = (E a')[i]?) len (fun k hk => by
      obtain ⟨cs', h1, h2⟩ := hel k (by omega)
      rw [hc] at h1
      obtain ⟨_, h3, h4⟩ := World.cells?_some h1
      obtain ⟨a', rfl, qa⟩ := h n cs' _ h2
      exact ⟨a', qa, h4⟩)
    refine ⟨(.slice (some a) len cap, xs), rfl, ?_, ?_⟩
    · refine ⟨by rw [flat_len E sz hE], some a, cap, by rw [hxl], by show xs.length ≤ cap; omega, by unfold maxLen at hm; omega, fun hn => ⟨a, rfl, ?_, ?_⟩⟩
      · have h0 := (hxs 0 (by omega)).2 0 hs
        rw [add_add'] at h0
        have h1 : ∃ u, (E xs[0])[0]? = some u := ⟨_, List.getElem?_eq_getElem (by rw [hE]; exact hs)⟩
        obtain ⟨u, hu⟩ := h1
        rw [hu] at h0
        have := World.block_lt_of_cell? w _ h0
        rwa [add_blk] at this
      · intro j u hu
        obtain ⟨k, hk, i, hi, rfl, hv⟩ := flat_at E sz hE xs j u hu
        have := (hxs k hk).2 i hi
        rw [hv, add_add'] at this
        exact this
    · intro a' ha'
      obtain ⟨k, hk, rfl⟩ := List.getElem_of_mem ha'
      exact (hxs k hk).1
/-- a parameter that is a slice -/
theorem open_pslice {e : TypeId} {r : Reach} {b0 : Nat} {v : Value} {d : DataW H} {p : List MemPlace} {Q : Value × List α → Prop} (ht : P.underlying t = some (.slice e)) (hv : Value.okWide P w r b0 t v)
    (h0 : DataW.Trod enc P w 0 (fun _ => true) true t v d p) (h : Reads1 enc P w t (fun s : Value × List α => [s.1]) Q) : ∃ s, v = s.1 ∧ Q s := by
  obtain ⟨A, len, cap, rfl⟩ := okWide_slice ht hv
  obtain ⟨fuel, hf⟩ := h0
  obtain ⟨s, hs, hq⟩ := h fuel _ _ hf
  exact ⟨s, by simpa [Value.cells] using hs, hq⟩
/-- a parameter that is a struct -/
theorem open_pstruct {fs : Array Field} {r : Reach} {b0 : Nat} {v : Value} {d : DataW H} {p : List MemPlace} (ht : P.underlying t = some (.struct fs)) (hv : Value.okWide P w r b0 t v)
    (h0 : DataW.Trod enc P w 0 (fun _ => true) true t v d p) (h : Reads1 enc P w t E Q) : ∃ a, v = .agg (E a).toArray ∧ Q a := by
  obtain ⟨cs, rfl, _⟩ := okWide_struct ht hv
  obtain ⟨fuel, hf⟩ := h0
  obtain ⟨a, ha, hq⟩ := h fuel _ _ hf
  exact ⟨a, by simp only [Value.cells] at ha; rw [← ha], hq⟩
end

end Go.Proofs.Ytkobaidamdffmaa

namespace Go.Proofs.Ytkobaidamdffmaa
open Go.RowKit Go.ChangeShapes Go.WideShapes Go.Deep
set_option linter.unusedVariables false
set_option linter.unusedSimpArgs false

section
variable {H : Type} (enc : TypeId × Value → H) (P : Program) (w : World)
/-- all that weighs in a datum is within the form's reach -/
def Light (t : TypeId) (d : DataW H) : Prop := ∀ n ∈ d.weights P t, n ≤ reachBytes
/-- What reads as a datum of type t are the cells E a of some a; Q a, if the datum is light; its bulk is at least m a. -/
def Reads2 (t : TypeId) {α : Type} (E : α → List Value) (Q : α → Prop) (m : α → Nat) : Prop :=
  ∀ (fuel : Nat) (cs : List Value) (x : DataW H × List MemPlace), DataW.trod enc P w 0 (fun _ => true) true fuel t cs = some x → ∃ a, cs = E a ∧ (Light P t x.1 → Q a) ∧ m a ≤ Rows.uptoBulk x.1
def ReadsFs2 (fs : List Field) (off tot : Nat) {α : Type} (E : α → List Value) (Q : α → Prop) (m : α → Nat) : Prop :=
  ∀ (cs : List Value) (ys : List (DataW H × List MemPlace)), ys.length = fs.length → (∀ (i : Nat) (f : Field), fs[i]? = some f → ∃ n, DataW.trod enc P w 0 (fun _ => true) true n f.type ((cs.drop f.offset).take (P.cellsOf f.type)) = ys[i]?) →
    ∃ a, (cs.drop off).take tot = E a ∧ ((∀ n ∈ DataW.weightsEach P (fs.map (·.type)) (ys.map (·.1)), n ≤ reachBytes) → Q a) ∧ m a ≤ Rows.uptoBulkAll (ys.map (·.1))
end

theorem bulk_one {H : Type} (d : DataW H) : 1 ≤ Rows.uptoBulk d := by
  cases d with
  | lit l => cases l <;> simp [Rows.uptoBulk]
  | nil => simp [Rows.uptoBulk]
  | ptr d => simp [Rows.uptoBulk]
  | slice elems spare => simp [Rows.uptoBulk]
  | agg parts => simp [Rows.uptoBulk]
  | iface t d => simp [Rows.uptoBulk]
  | map entries => simp [Rows.uptoBulk]
  | held h => simp [Rows.uptoBulk]

section
variable {H : Type} {enc : TypeId × Value → H} {P : Program} {w : World} {t : TypeId} {α β : Type} {E : α → List Value} {Q : α → Prop} {m : α → Nat} {E' : β → List Value} {Q' : β → Prop} {m' : β → Nat}
theorem Reads2.map (h : Reads2 enc P w t E Q m) (f : α → β) (hE : ∀ a, E a = E' (f a)) (hQ : ∀ a, Q a → Q' (f a)) (hm : ∀ a, m' (f a) ≤ m a) : Reads2 enc P w t E' Q' m' := by
  intro fuel cs x hx
  obtain ⟨a, rfl, ha, hb⟩ := h fuel cs x hx
  exact ⟨f a, hE a, fun hl => hQ a (ha hl), Nat.le_trans (hm a) hb⟩
theorem reads2_int {k : IntKind} (ht : P.underlying t = some (.int k)) : Reads2 enc P w t (fun n : Int => [.int k n]) (fun n => (Lit.int k n).wf = true) (fun _ => 1) := by
  intro fuel cs x hx
  obtain ⟨n, rfl, rfl, hn⟩ := DataW.trod_int ht hx
  exact ⟨n, rfl, fun _ => hn, bulk_one _⟩
theorem reads2_bool (ht : P.underlying t = some .bool) : Reads2 enc P w t (fun b : Bool => [.bool b]) (fun _ => True) (fun _ => 1) := by
  intro fuel cs x hx
  obtain ⟨n, rfl, rfl⟩ := DataW.trod_bool ht hx
  exact ⟨n, rfl, fun _ => trivial, bulk_one _⟩
theorem reads2_fnil (off : Nat) : ReadsFs2 enc P w [] off 0 (fun _ : Unit => []) (fun _ => True) (fun _ => 0) := fun cs ys _ _ => ⟨(), by simp, fun _ => trivial, Nat.zero_le _⟩
theorem reads2_fcons {f : Field} {fs : List Field} {off tot n : Nat} (h1 : Reads2 enc P w f.type E Q m) (ho : f.offset = off) (hc : P.cellsOf f.type = n) (h2 : ReadsFs2 enc P w fs (off + n) tot E' Q' m') :
    ReadsFs2 enc P w (f :: fs) off (n + tot) (fun p : α × β => E p.1 ++ E' p.2) (fun p => Q p.1 ∧ Q' p.2) (fun p => m p.1 + m' p.2) := by
  intro cs ys hl hall
  match ys, hl with
  | y :: ys, hl =>
    obtain ⟨k, hy⟩ := hall 0 f rfl
    rw [ho, hc] at hy
    obtain ⟨a, ha, qa, ma⟩ := h1 k _ y hy
    obtain ⟨b, hb, qb, mb⟩ := h2 cs ys (by simpa using hl) (fun i g hg => hall (i + 1) g (by simpa using hg))
    refine ⟨(a, b), ?_, fun hw => ⟨qa (fun n hn => hw n ?_), qb (fun n hn => hw n ?_)⟩, ?_⟩
    · simp only
      rw [← ha, ← hb, ← List.drop_drop, List.take_add]
    · simp only [List.map_cons, DataW.weightsEach]
      exact List.mem_append_left _ hn
    · simp only [List.map_cons, DataW.weightsEach]
      exact List.mem_append_right _ hn
    · simp only [List.map_cons, Rows.uptoBulkAll]
      omega
theorem reads2_f1 {f : Field} {fs : List Field} {off tot : Nat} (h1 : Reads2 enc P w f.type E Q m) (ho : f.offset = off) (hc : P.cellsOf f.type = 1) (h2 : ReadsFs2 enc P w fs (off + 1) tot E' Q' m') :
    ReadsFs2 enc P w (f :: fs) off (1 + tot) (fun p : α × β => E p.1 ++ E' p.2) (fun p => Q p.1 ∧ Q' p.2) (fun p => m p.1 + m' p.2) := reads2_fcons h1 ho hc h2
theorem reads2_struct {fs : Array Field} (ht : P.underlying t = some (.struct fs)) {tot : Nat} (hc : P.cellsOf t = tot) (h : ReadsFs2 enc P w fs.toList 0 tot E Q m) : Reads2 enc P w t E Q (fun a => m a + 1) := by
  intro fuel cs x hx
  obtain ⟨xs, n, _, rfl, hl, hxl, hf⟩ := DataW.trod_struct ht hx
  obtain ⟨a, ha, qa, ma⟩ := h cs xs (by rw [hxl]; simp) (fun i f hf' => ⟨n, hf i f (by simpa using hf')⟩)
  refine ⟨a, ?_, fun hw => qa (fun k hk => hw k ?_), ?_⟩
  · rw [← ha, List.drop_zero, List.take_of_length_le (by omega)]
  · simp only [DataW.weights, ht]
    exact hk
  · simp only [Rows.uptoBulk]
    omega

theorem bulk_sum {γ : Type} {H : Type} (m : γ → Nat) (D : Nat → DataW H) : ∀ (xs : List γ) (o : Nat), (∀ k (hk : k < xs.length), m xs[k] ≤ Rows.uptoBulk (D (o + k))) → (xs.map m).sum ≤ Rows.uptoBulkAll ((List.range' o xs.length).map D)
  | [], o, _ => by simp [Rows.uptoBulkAll]
  | x :: xs, o, h => by
    have h0 := h 0 (by simp)
    have h1 := bulk_sum m D xs (o + 1) (fun k hk => by
      have := h (k + 1) (by simpa using hk)
      simpa [Nat.add_assoc, Nat.add_comm 1 k] using this)
    simp only [List.map_cons, List.sum_cons, List.length_cons, List.range'_succ, Rows.uptoBulkAll]
    simp at h0
    omega
theorem mem_weightsAll {H : Type} {P : Program} {e : TypeId} {d : DataW H} : ∀ {l : List (DataW H)}, d ∈ l → ∀ n ∈ d.weights P e, n ∈ DataW.weightsAll P e l
  | [], h, _, _ => by cases h
  | x :: l, h, n, hn => by
    simp only [DataW.weightsAll]
    rcases List.mem_cons.1 h with rfl | h
    · exact List.mem_append_left _ hn
    · exact List.mem_append_right _ (mem_weightsAll h n hn)

/-- a slice of what reads; by_: the bytes of an element -/
theorem reads2_slice {e : TypeId} {sz by_ : Nat} (ht : P.underlying t = some (.slice e)) (hc : P.cellsOf e = sz) (hby : P.bytesOf e = by_) (hE : ∀ a, (E a).length = sz) (hs : 0 < sz) (h : Reads2 enc P w e E Q m) :
    Reads2 enc P w t (fun s : Value × List α => [s.1]) (fun s => Sl w w.heap.size s.1 sz s.2.length (s.2.flatMap E) ∧ s.2.length * by_ ≤ 140737488351232 ∧ ∀ a ∈ s.2, Q a) (fun s => (s.2.map m).sum + 1) := by
  intro fuel cs x hx
  rcases open_slice ht hx with ⟨rfl, rfl⟩ | ⟨a, len, cap, mm, n, D, Pl, rfl, _, hl, hm, hmm, rfl, hel⟩
  · exact ⟨(.slice none 0 0, []), rfl, fun _ => ⟨Sl.nil _ _ _, by simp, by simp⟩, by simp [Rows.uptoBulk]⟩
  · have hm2 : len ≤ mm := by rw [hmm]; split <;> omega
    obtain ⟨xs, hxl, hxs⟩ := choose_list (fun k a' => ((Light P e (D k) → Q a') ∧ m a' ≤ Rows.uptoBulk (D k)) ∧ ∀ i, i < sz → w.cell? ((a.add (k * sz)).add i) = (E a')[i]?) len (fun k hk => by
      obtain ⟨cs', h1, h2⟩ := hel k (by omega)
      rw [hc] at h1
      obtain ⟨_, h3, h4⟩ := World.cells?_some h1
      obtain ⟨a', rfl, qa, ma⟩ := h n cs' _ h2
      exact ⟨a', ⟨qa, ma⟩, h4⟩)
    refine ⟨(.slice (some a) len cap, xs), rfl, fun hw => ⟨?_, ?_, ?_⟩, ?_⟩
    · refine ⟨by rw [flat_len E sz hE], some a, cap, by rw [hxl], by show xs.length ≤ cap; omega, by unfold maxLen at hm; omega, fun hn => ⟨a, rfl, ?_, ?_⟩⟩
      · have h0 := (hxs 0 (by omega)).2 0 hs
        rw [add_add'] at h0
        have h1 : ∃ u, (E xs[0])[0]? = some u := ⟨_, List.getElem?_eq_getElem (by rw [hE]; exact hs)⟩
        obtain ⟨u, hu⟩ := h1
        rw [hu] at h0
        have := World.block_lt_of_cell? w _ h0
        rwa [add_blk] at this
      · intro j u hu
        obtain ⟨k, hk, i, hi, rfl, hv⟩ := flat_at E sz hE xs j u hu
        have := (hxs k hk).2 i hi
        rw [hv, add_add'] at this
        exact this
    · have h1 := hw ((((List.range len).map D).length + ((List.range (mm - len)).map fun j => D (len + j)).length) * P.bytesOf e) (by simp only [DataW.weights, ht]; exact List.mem_cons_self)
      have h2 : len * by_ ≤ (((List.range len).map D).length + ((List.range (mm - len)).map fun j => D (len + j)).length) * P.bytesOf e := by
        rw [hby]
        exact Nat.mul_le_mul_right _ (by simp)
      have h3 : reachBytes = 140737488351232 := rfl
      show xs.length * by_ ≤ _
      rw [hxl]
      omega
    · intro a' ha'
      obtain ⟨k, hk, rfl⟩ := List.getElem_of_mem ha'
      refine (hxs k hk).1.1 (fun n hn => hw n ?_)
      simp only [DataW.weights, ht]
      refine List.mem_cons_of_mem _ (List.mem_append_left _ (mem_weightsAll (d := D k) ?_ n hn))
      simp
      exact ⟨k, by rw [← hxl]; exact hk, rfl⟩
    · have h1 := bulk_sum m D xs 0 (fun k hk => by simpa using (hxs k hk).1.2)
      rw [hxl, ← List.range_eq_range'] at h1
      simp only [Rows.uptoBulk]
      omega
/-- a parameter that is a slice -/
theorem open_pslice2 {e : TypeId} {r : Reach} {b0 : Nat} {v : Value} {d : DataW H} {p : List MemPlace} {Q : Value × List α → Prop} {m : Value × List α → Nat} (ht : P.underlying t = some (.slice e)) (hv : Value.okWide P w r b0 t v)
    (h0 : DataW.Trod enc P w 0 (fun _ => true) true t v d p) (h : Reads2 enc P w t (fun s : Value × List α => [s.1]) Q m) (hl : Light P t d) : ∃ s, v = s.1 ∧ Q s ∧ m s ≤ Rows.uptoBulk d := by
  obtain ⟨A, len, cap, rfl⟩ := okWide_slice ht hv
  obtain ⟨fuel, hf⟩ := h0
  obtain ⟨s, hs, hq, hm⟩ := h fuel _ _ hf
  exact ⟨s, by simpa [Value.cells] using hs, hq hl, hm⟩
/-- a parameter that is a struct -/
theorem open_pstruct2 {fs : Array Field} {r : Reach} {b0 : Nat} {v : Value} {d : DataW H} {p : List MemPlace} (ht : P.underlying t = some (.struct fs)) (hv : Value.okWide P w r b0 t v)
    (h0 : DataW.Trod enc P w 0 (fun _ => true) true t v d p) (h : Reads2 enc P w t E Q m) (hl : Light P t d) : ∃ a, v = .agg (E a).toArray ∧ Q a ∧ m a ≤ Rows.uptoBulk d := by
  obtain ⟨cs, rfl, _⟩ := okWide_struct ht hv
  obtain ⟨fuel, hf⟩ := h0
  obtain ⟨a, ha, hq, hm⟩ := h fuel _ _ hf
  exact ⟨a, by simp only [Value.cells] at ha; rw [← ha], hq hl, hm⟩
theorem light_of {ts : List TypeId} {ds : List (DataW H)} (hsz : (DataW.weightsEach P ts ds).all (· ≤ reachBytes) = true) (j : Nat) {t : TypeId} {d : DataW H} (ht : ts[j]? = some t) (hd : ds[j]? = some d) : Light P t d := by
  intro n hn
  have h := List.all_eq_true.1 hsz n (DataW.weights_mem_each ht hd n hn)
  simpa using h
end

end Go.Proofs.Ytkobaidamdffmaa

namespace Go.Proofs.Ytkobaidamdffmaa
open Go.RowKit Go.ChangeShapes Go.WideShapes Go.Deep
set_option linter.unusedVariables false
set_option linter.unusedSimpArgs false

theorem sum_ones {α : Type} (l : List α) : (l.map fun _ => 1).sum = l.length := by
  induction l with
  | nil => rfl
  | cons x l ih => rw [List.map_cons, List.sum_cons, ih, List.length_cons]; omega
section
variable {H : Type} (enc : TypeId × Value → H) (w : World)
theorem rd2_bytes : Reads2 enc Try.prog w 23 (fun r : Value × List Int => [r.1]) (fun r => Sl w w.heap.size r.1 1 r.2.length (bys r.2) ∧ r.2.length ≤ 140737488351232 ∧ Bytes8 r.2) (fun r => r.2.length + 1) :=
  Reads2.map (Q := fun s : Value × List Int => Sl w w.heap.size s.1 1 s.2.length (s.2.flatMap fun n : Int => [Value.int .u8 n]) ∧ s.2.length * 1 ≤ 140737488351232 ∧ ∀ a ∈ s.2, (Lit.int .u8 a).wf = true) (m := fun s => (s.2.map fun _ => 1).sum + 1)
    (reads2_slice (sz := 1) (by_ := 1) (E := fun n : Int => [.int .u8 n]) Try.underlying23 (by kernel_rfl) (by kernel_rfl) (fun _ => rfl) (by omega) (reads2_int (by kernel_rfl))) id (fun _ => rfl)
    (fun s h => ⟨h.1, by have := h.2.1; show s.2.length ≤ _; omega, fun c hc => by
      have h9 := h.2.2 c hc
      simpa [Lit.wf, IntKind.min, IntKind.max, IntKind.signed, IntKind.bits] using h9⟩) (fun s => by rw [sum_ones]; exact Nat.le_refl _)
theorem rd2_win : Reads2 enc Try.prog w 25 Win.cells (fun _ => True) (fun _ => 1) :=
  (reads2_struct Try.underlying25 (by kernel_rfl)
    (reads2_f1 (reads2_int Try.underlying3) rfl (by kernel_rfl) (reads2_f1 (reads2_int Try.underlying3) rfl (by kernel_rfl) (reads2_fnil _)))).map
    (fun p => ⟨p.1, p.2.1⟩) (fun _ => rfl) (fun _ _ => trivial) (fun _ => by omega)
/-- a state, as five plain values -/
structure St5 where
  n : Int
  g : Int
  h : Int
  p : Bool
  c : Bool
def St5.cells (x : St5) : List Value := [.int .i64 x.n, .int .i64 x.g, .int .i64 x.h, .bool x.p, .bool x.c]
theorem rd2_st : Reads2 enc Try.prog w 27 St5.cells (fun _ => True) (fun _ => 1) :=
  (reads2_struct Try.underlying27 (by kernel_rfl)
    (reads2_f1 (reads2_int Try.underlying3) rfl (by kernel_rfl) (reads2_f1 (reads2_int Try.underlying3) rfl (by kernel_rfl) (reads2_f1 (reads2_int Try.underlying3) rfl (by kernel_rfl)
      (reads2_f1 (reads2_bool Try.underlying4) rfl (by kernel_rfl) (reads2_f1 (reads2_bool Try.underlying4) rfl (by kernel_rfl) (reads2_fnil _))))))).map
    (fun p => ⟨p.1, p.2.1, p.2.2.1, p.2.2.2.1, p.2.2.2.2.1⟩) (fun _ => rfl) (fun _ _ => trivial) (fun _ => by omega)
theorem rd2_rc : Reads2 enc Try.prog w 29 RC.cells (RCQ w) (fun x => x.kb.length + x.d.b.length + 1) :=
  (reads2_struct Try.underlying29 (by kernel_rfl)
    (reads2_f1 (rd2_bytes enc w) rfl (by kernel_rfl) (reads2_fcons (n := 2) (rd2_win enc w) rfl (by kernel_rfl) (reads2_f1 (rd2_bytes enc w) rfl (by kernel_rfl) (reads2_f1 (reads2_int Try.underlying3) rfl (by kernel_rfl) (reads2_fcons (n := 5) (rd2_st enc w) rfl (by kernel_rfl) (reads2_fnil _))))))).map
    (fun p => ⟨p.1.1, p.1.2, p.2.1.f, p.2.1.t, p.2.2.1.1, ⟨p.2.2.1.2, p.2.2.2.1, p.2.2.2.2.1.n, p.2.2.2.2.1.g, p.2.2.2.2.1.h, p.2.2.2.2.1.p, p.2.2.2.2.1.c⟩⟩) (fun _ => rfl)
    (fun _ h => ⟨h.1.1, Nat.le_trans h.1.2.1 (by decide), h.1.2.2, h.2.2.1.1, Nat.le_trans h.2.2.1.2.1 (by decide), h.2.2.1.2.2⟩) (fun p => by show p.1.2.length + p.2.2.1.2.length + 1 ≤ _; omega)
theorem rd2_rcs : Reads2 enc Try.prog w 22 (fun s : Value × List RC => [s.1]) (fun s => Sl w w.heap.size s.1 10 s.2.length (rcs s.2) ∧ s.2.length * 104 ≤ 140737488351232 ∧ ∀ x ∈ s.2, RCQ w x) (fun s => (s.2.map fun x => x.kb.length + x.d.b.length + 1).sum + 1) :=
  (reads2_slice (E := RC.cells) Try.underlying22 (by kernel_rfl) (by kernel_rfl) (fun _ => rfl) (by omega) (rd2_rc enc w)).map id (fun _ => rfl) (fun _ h => h) (fun s => Nat.le_refl _)
/-- an op -/
structure Op15 where
  k : Int
  x : RC
def Op15.cells (o : Op15) : List Value := .int .i64 o.k :: o.x.cells
theorem rd2_op : Reads2 enc Try.prog w 31 Op15.cells (fun o => RCQ w o.x) (fun o => o.x.kb.length + o.x.d.b.length + 1) :=
  (reads2_struct Try.underlying31 (by kernel_rfl)
    (reads2_f1 (reads2_int Try.underlying3) rfl (by kernel_rfl) (reads2_fcons (n := 10) (rd2_rc enc w) rfl (by kernel_rfl) (reads2_fnil _)))).map
    (fun p => ⟨p.1, p.2.1⟩) (fun p => by show _ = Value.int .i64 p.1 :: p.2.1.cells; simp [RC.cells]) (fun _ h => h.2.1) (fun p => by show p.2.1.kb.length + p.2.1.d.b.length + 1 ≤ _; omega)
end

end Go.Proofs.Ytkobaidamdffmaa

namespace Go.Proofs.Ytkobaidamdffmaa
open Go.RowKit Go.ChangeShapes Go.WideShapes Go.Deep
set_option linter.unusedVariables false
set_option linter.unusedSimpArgs false

theorem decodes15_walk (b : Value × List Int) (z : Value × List RC) (w : World) (hb : Sl w w.heap.size b.1 1 b.2.length (bys b.2) ∧ b.2.length ≤ 140737488351232 ∧ Bytes8 b.2) (h : Sl w w.heap.size z.1 10 z.2.length (rcs z.2) ∧ z.2.length * 104 ≤ 140737488351232 ∧ ∀ x ∈ z.2, RCQ w x) :
    Calls Try.prog 6 #[b.1, z.1] w fun e w' => e = .returned (.bool true) ∧ Below w.heap.size w w' := decodes15_ok b.1 z.1 b.2 z.2 w hb.1 hb.2.2 h.1 h.2.2

end Go.Proofs.Ytkobaidamdffmaa
