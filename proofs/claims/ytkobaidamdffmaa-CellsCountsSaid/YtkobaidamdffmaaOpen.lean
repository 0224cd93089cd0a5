/- An argument's reading opened to cells, type by type: whole numbers, bools, strings, structs, slices of them. -/
import Derived.Test.YtkobaidamdffmaaLib
import Derived.Deep.Slices
import Derived.Deep.Fields
import Derived.ProofKit
import Derived.OpenShut
import Derived.ShutString
import Derived.SizedLaws
import Derived.ChangeOld
namespace Go.Proofs.Ytkobaidamdffmaa
open Go.RowKit Go.ChangeShapes Go.WideShapes Go.Deep
set_option linter.unusedVariables false
set_option linter.unusedSimpArgs false

section
variable {H : Type} (enc : TypeId × Value → H) (P : Program) (w : World)

/-- What reads as a datum of type t are the cells E a of some a with Q a. -/
def Reads1 (t : TypeId) {α : Type} (E : α → List Value) (Q : α → Prop) : Prop :=
  ∀ (fuel : Nat) (cs : List Value) (x : DataW H × List MemPlace), DataW.trod enc P w 0 (fun _ => true) true fuel t cs = some x → ∃ a, cs = E a ∧ Q a

/-- The same for the fields fs of a struct, those from cell off on. -/
def ReadsFs (fs : List Field) (off tot : Nat) {α : Type} (E : α → List Value) (Q : α → Prop) : Prop :=
  ∀ cs : List Value, (∀ f ∈ fs, ∃ n y, DataW.trod enc P w 0 (fun _ => true) true n f.type ((cs.drop f.offset).take (P.cellsOf f.type)) = some y) → ∃ a, (cs.drop off).take tot = E a ∧ Q a
end

section
variable {H : Type} {enc : TypeId × Value → H} {P : Program} {w : World} {t : TypeId} {α β : Type} {E : α → List Value} {Q : α → Prop} {E' : β → List Value} {Q' : β → Prop}
theorem Reads1.map (h : Reads1 enc P w t E Q) (f : α → β) (hE : ∀ a, E a = E' (f a)) (hQ : ∀ a, Q a → Q' (f a)) : Reads1 enc P w t E' Q' := by
  intro fuel cs x hx
  obtain ⟨a, rfl, ha⟩ := h fuel cs x hx
  exact ⟨f a, hE a, hQ a ha⟩
theorem reads_int {k : IntKind} (ht : P.underlying t = some (.int k)) : Reads1 enc P w t (fun n : Int => [.int k n]) (fun n => (Lit.int k n).wf = true) := by
  intro fuel cs x hx
  obtain ⟨n, rfl, _, hn⟩ := DataW.trod_int ht hx
  exact ⟨n, rfl, hn⟩
theorem reads_bool (ht : P.underlying t = some .bool) : Reads1 enc P w t (fun b : Bool => [.bool b]) (fun _ => True) := by
  intro fuel cs x hx
  obtain ⟨n, rfl, _⟩ := DataW.trod_bool ht hx
  exact ⟨n, rfl, trivial⟩
theorem reads_fnil (off : Nat) : ReadsFs enc P w [] off 0 (fun _ : Unit => []) (fun _ => True) := fun cs _ => ⟨(), by simp, trivial⟩
theorem reads_fcons {f : Field} {fs : List Field} {off tot n : Nat} (h1 : Reads1 enc P w f.type E Q) (ho : f.offset = off) (hc : P.cellsOf f.type = n) (h2 : ReadsFs enc P w fs (off + n) tot E' Q') :
    ReadsFs enc P w (f :: fs) off (n + tot) (fun p : α × β => E p.1 ++ E' p.2) (fun p => Q p.1 ∧ Q' p.2) := by
  intro cs hall
  obtain ⟨m, y, hy⟩ := hall f (by simp)
  rw [ho, hc] at hy
  obtain ⟨a, ha, qa⟩ := h1 m _ y hy
  obtain ⟨b, hb, qb⟩ := h2 cs (fun g hg => hall g (by simp [hg]))
  refine ⟨(a, b), ?_, qa, qb⟩
  simp only
  rw [← ha, ← hb, ← List.drop_drop, List.take_add]
theorem reads_f1 {f : Field} {fs : List Field} {off tot : Nat} (h1 : Reads1 enc P w f.type E Q) (ho : f.offset = off) (hc : P.cellsOf f.type = 1) (h2 : ReadsFs enc P w fs (off + 1) tot E' Q') :
    ReadsFs enc P w (f :: fs) off (1 + tot) (fun p : α × β => E p.1 ++ E' p.2) (fun p => Q p.1 ∧ Q' p.2) := reads_fcons h1 ho hc h2
theorem reads_struct {fs : Array Field} (ht : P.underlying t = some (.struct fs)) {tot : Nat} (hc : P.cellsOf t = tot) (h : ReadsFs enc P w fs.toList 0 tot E Q) : Reads1 enc P w t E Q := by
  intro fuel cs x hx
  obtain ⟨xs, n, _, _, hl, hxl, hf⟩ := DataW.trod_struct ht hx
  obtain ⟨a, ha, qa⟩ := h cs (fun f hf' => by
    obtain ⟨i, hi, he⟩ := List.getElem_of_mem hf'
    have h1 : fs[i]? = some f := by
      rw [← he]
      simp
    have h2 := hf i f h1
    have h3 : i < xs.length := by
      rw [hxl]
      simpa using hi
    rw [List.getElem?_eq_getElem h3] at h2
    exact ⟨n, _, h2⟩)
  refine ⟨a, ?_, qa⟩
  rw [← ha, List.drop_zero, List.take_of_length_le (by omega)]

theorem choose_list {γ : Type} (R : Nat → γ → Prop) : ∀ n, (∀ k, k < n → ∃ a, R k a) → ∃ l : List γ, l.length = n ∧ ∀ k (hk : k < l.length), R k l[k]
  | 0, _ => ⟨[], rfl, fun k hk => by simp at hk⟩
  | n + 1, h => by
    obtain ⟨l, hl, hr⟩ := choose_list R n (fun k hk => h k (by omega))
    obtain ⟨a, ha⟩ := h n (by omega)
    refine ⟨l ++ [a], by simp [hl], fun k hk => ?_⟩
    by_cases hkn : k < l.length
    · rw [List.getElem_append_left hkn]
      exact hr k hkn
    · have : k = n := by simp at hk; omega
      subst this
      subst hl
      simpa using ha

theorem flat_at {γ : Type} (f : γ → List Value) (sz : Nat) (hf : ∀ x, (f x).length = sz) (xs : List γ) (j : Nat) (u : Value) (hj : (xs.flatMap f)[j]? = some u) :
    ∃ (k : Nat) (hk : k < xs.length) (i : Nat), i < sz ∧ j = k * sz + i ∧ (f xs[k])[i]? = some u := by
  have hlt : j < xs.length * sz := by
    rw [← flat_len f sz hf]
    exact (List.getElem?_eq_some_iff.1 hj).1
  have hs : 0 < sz := by
    rcases Nat.eq_zero_or_pos sz with h | h
    · subst h; simp at hlt
    · exact h
  have hk : j / sz < xs.length := (Nat.div_lt_iff_lt_mul hs).2 hlt
  refine ⟨j / sz, hk, j % sz, Nat.mod_lt _ hs, ?_, ?_⟩
  · rw [Nat.mul_comm]; exact (Nat.div_add_mod j sz).symm
  · rw [← part_of f sz hf xs _ hk, List.getElem?_take, if_pos (Nat.mod_lt _ hs), List.getElem?_drop]
    rw [Nat.mul_comm, Nat.div_add_mod]
    exact hj

/-- a slice of what reads -/
theorem reads_slice {e : TypeId} {sz : Nat} (ht : P.underlying t = some (.slice e)) (hc : P.cellsOf e = sz) (hE : ∀ a, (E a).length = sz) (hs : 0 < sz) (h : Reads1 enc P w e E Q) :
    Reads1 enc P w t (fun s : Value × List α => [s.1]) (fun s => Sl w w.heap.size s.1 sz s.2.length (s.2.flatMap E) ∧ ∀ a ∈ s.2, Q a) := by
  intro fuel cs x hx
  rcases open_slice ht hx with ⟨rfl, _⟩ | ⟨a, len, cap, m, n, D, Pl, rfl, _, hl, hm, hmm, _, hel⟩
  · exact ⟨(.slice none 0 0, []), rfl, Sl.nil _ _ _, by simp⟩
  · have hm2 : len ≤ m := by rw [hmm]; split <;> omega
    obtain ⟨xs, hxl, hxs⟩ := choose_list (fun k a' => Q a' ∧ ∀ i, i < sz → w.cell? ((a.add (k * sz)).add i) = (E a')[i]?) len (fun k hk => by
      obtain ⟨cs', h1, h2⟩ := hel k (by omega)
      rw [hc] at h1
      obtain ⟨_, h3, h4⟩ := World.cells?_some h1
      obtain ⟨a', rfl, qa⟩ := h n cs' _ h2
      exact ⟨a', qa, h4⟩)
    refine ⟨(.slice (some a) len cap, xs), rfl, ?_, ?_⟩
    · refine ⟨by rw [flat_len E sz hE], some a, cap, by rw [hxl], by show xs.length ≤ cap; omega, by unfold maxLen at hm; omega, fun hn => ⟨a, rfl, ?_, ?_⟩⟩
      · have h0 := (hxs 0 (by omega)).2 0 hs
        rw [add_add'] at h0
        have h1 : ∃ u, (E xs[0])[0]? = some u := ⟨_, List.getElem?_eq_getElem (by rw [hE]; exact hs)⟩
        obtain ⟨u, hu⟩ := h1
        rw [hu] at h0
        have := World.block_lt_of_cell? w _ h0
        rwa [add_blk] at this
      · intro j u hu
        obtain ⟨k, hk, i, hi, rfl, hv⟩ := flat_at E sz hE xs j u hu
        have := (hxs k hk).2 i hi
        rw [hv, add_add'] at this
        exact this
    · intro a' ha'
      obtain ⟨k, hk, rfl⟩ := List.getElem_of_mem ha'
      exact (hxs k hk).1
/-- a parameter that is a slice -/
theorem open_pslice {e : TypeId} {r : Reach} {b0 : Nat} {v : Value} {d : DataW H} {p : List MemPlace} {Q : Value × List α → Prop} (ht : P.underlying t = some (.slice e)) (hv : Value.okWide P w r b0 t v)
    (h0 : DataW.Trod enc P w 0 (fun _ => true) true t v d p) (h : Reads1 enc P w t (fun s : Value × List α => [s.1]) Q) : ∃ s, v = s.1 ∧ Q s := by
  obtain ⟨A, len, cap, rfl⟩ := okWide_slice ht hv
  obtain ⟨fuel, hf⟩ := h0
  obtain ⟨s, hs, hq⟩ := h fuel _ _ hf
  exact ⟨s, by simpa [Value.cells] using hs, hq⟩
/-- a parameter that is a struct -/
theorem open_pstruct {fs : Array Field} {r : Reach} {b0 : Nat} {v : Value} {d : DataW H} {p : List MemPlace} (ht : P.underlying t = some (.struct fs)) (hv : Value.okWide P w r b0 t v)
    (h0 : DataW.Trod enc P w 0 (fun _ => true) true t v d p) (h : Reads1 enc P w t E Q) : ∃ a, v = .agg (E a).toArray ∧ Q a := by
  obtain ⟨cs, rfl, _⟩ := okWide_struct ht hv
  obtain ⟨fuel, hf⟩ := h0
  obtain ⟨a, ha, hq⟩ := h fuel _ _ hf
  exact ⟨a, by simp only [Value.cells] at ha; rw [← ha], hq⟩
end

end Go.Proofs.Ytkobaidamdffmaa
