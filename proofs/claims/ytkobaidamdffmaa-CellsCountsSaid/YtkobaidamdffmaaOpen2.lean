/- An argument's reading opened to cells, with what the form's reach and the reading's bulk tell of its size. -/
import Derived.Test.YtkobaidamdffmaaRows
import Derived.Test.YtkobaidamdffmaaOpen
import Derived.JoinedCond
import Derived.Deep.CondSized
namespace Go.Proofs.Ytkobaidamdffmaa
open Go.RowKit Go.ChangeShapes Go.WideShapes Go.Deep
set_option linter.unusedVariables false
set_option linter.unusedSimpArgs false

section
variable {H : Type} (enc : TypeId × Value → H) (P : Program) (w : World)
/-- all that weighs in a datum is within the form's reach -/
def Light (t : TypeId) (d : DataW H) : Prop := ∀ n ∈ d.weights P t, n ≤ reachBytes
/-- What reads as a datum of type t are the cells E a of some a; Q a, if the datum is light; its bulk is at least m a. -/
def Reads2 (t : TypeId) {α : Type} (E : α → List Value) (Q : α → Prop) (m : α → Nat) : Prop :=
  ∀ (fuel : Nat) (cs : List Value) (x : DataW H × List MemPlace), DataW.trod enc P w 0 (fun _ => true) true fuel t cs = some x → ∃ a, cs = E a ∧ (Light P t x.1 → Q a) ∧ m a ≤ Rows.uptoBulk x.1
def ReadsFs2 (fs : List Field) (off tot : Nat) {α : Type} (E : α → List Value) (Q : α → Prop) (m : α → Nat) : Prop :=
  ∀ (cs : List Value) (ys : List (DataW H × List MemPlace)), ys.length = fs.length → (∀ (i : Nat) (f : Field), fs[i]? = some f → ∃ n, DataW.trod enc P w 0 (fun _ => true) true n f.type ((cs.drop f.offset).take (P.cellsOf f.type)) = ys[i]?) →
    ∃ a, (cs.drop off).take tot = E a ∧ ((∀ n ∈ DataW.weightsEach P (fs.map (·.type)) (ys.map (·.1)), n ≤ reachBytes) → Q a) ∧ m a ≤ Rows.uptoBulkAll (ys.map (·.1))
end

theorem bulk_one {H : Type} (d : DataW H) : 1 ≤ Rows.uptoBulk d := by
  cases d with
  | lit l => cases l <;> simp [Rows.uptoBulk]
  | nil => simp [Rows.uptoBulk]
  | ptr d => simp [Rows.uptoBulk]
  | slice elems spare => simp [Rows.uptoBulk]
  | agg parts => simp [Rows.uptoBulk]
  | iface t d => simp [Rows.uptoBulk]
  | map entries => simp [Rows.uptoBulk]
  | held h => simp [Rows.uptoBulk]

section
variable {H : Type} {enc : TypeId × Value → H} {P : Program} {w : World} {t : TypeId} {α β : Type} {E : α → List Value} {Q : α → Prop} {m : α → Nat} {E' : β → List Value} {Q' : β → Prop} {m' : β → Nat}
theorem Reads2.map (h : Reads2 enc P w t E Q m) (f : α → β) (hE : ∀ a, E a = E' (f a)) (hQ : ∀ a, Q a → Q' (f a)) (hm : ∀ a, m' (f a) ≤ m a) : Reads2 enc P w t E' Q' m' := by
  intro fuel cs x hx
  obtain ⟨a, rfl, ha, hb⟩ := h fuel cs x hx
  exact ⟨f a, hE a, fun hl => hQ a (ha hl), Nat.le_trans (hm a) hb⟩
theorem reads2_int {k : IntKind} (ht : P.underlying t = some (.int k)) : Reads2 enc P w t (fun n : Int => [.int k n]) (fun n => (Lit.int k n).wf = true) (fun _ => 1) := by
  intro fuel cs x hx
  obtain ⟨n, rfl, rfl, hn⟩ := DataW.trod_int ht hx
  exact ⟨n, rfl, fun _ => hn, bulk_one _⟩
theorem reads2_bool (ht : P.underlying t = some .bool) : Reads2 enc P w t (fun b : Bool => [.bool b]) (fun _ => True) (fun _ => 1) := by
  intro fuel cs x hx
  obtain ⟨n, rfl, rfl⟩ := DataW.trod_bool ht hx
  exact ⟨n, rfl, fun _ => trivial, bulk_one _⟩
theorem reads2_fnil (off : Nat) : ReadsFs2 enc P w [] off 0 (fun _ : Unit => []) (fun _ => True) (fun _ => 0) := fun cs ys _ _ => ⟨(), by simp, fun _ => trivial, Nat.zero_le _⟩
theorem reads2_fcons {f : Field} {fs : List Field} {off tot n : Nat} (h1 : Reads2 enc P w f.type E Q m) (ho : f.offset = off) (hc : P.cellsOf f.type = n) (h2 : ReadsFs2 enc P w fs (off + n) tot E' Q' m') :
    ReadsFs2 enc P w (f :: fs) off (n + tot) (fun p : α × β => E p.1 ++ E' p.2) (fun p => Q p.1 ∧ Q' p.2) (fun p => m p.1 + m' p.2) := by
  intro cs ys hl hall
  match ys, hl with
  | y :: ys, hl =>
    obtain ⟨k, hy⟩ := hall 0 f rfl
    rw [ho, hc] at hy
    obtain ⟨a, ha, qa, ma⟩ := h1 k _ y hy
    obtain ⟨b, hb, qb, mb⟩ := h2 cs ys (by simpa using hl) (fun i g hg => hall (i + 1) g (by simpa using hg))
    refine ⟨(a, b), ?_, fun hw => ⟨qa (fun n hn => hw n ?_), qb (fun n hn => hw n ?_)⟩, ?_⟩
    · simp only
      rw [← ha, ← hb, ← List.drop_drop, List.take_add]
    · simp only [List.map_cons, DataW.weightsEach]
      exact List.mem_append_left _ hn
    · simp only [List.map_cons, DataW.weightsEach]
      exact List.mem_append_right _ hn
    · simp only [List.map_cons, Rows.uptoBulkAll]
      omega
theorem reads2_f1 {f : Field} {fs : List Field} {off tot : Nat} (h1 : Reads2 enc P w f.type E Q m) (ho : f.offset = off) (hc : P.cellsOf f.type = 1) (h2 : ReadsFs2 enc P w fs (off + 1) tot E' Q' m') :
    ReadsFs2 enc P w (f :: fs) off (1 + tot) (fun p : α × β => E p.1 ++ E' p.2) (fun p => Q p.1 ∧ Q' p.2) (fun p => m p.1 + m' p.2) := reads2_fcons h1 ho hc h2
theorem reads2_struct {fs : Array Field} (ht : P.underlying t = some (.struct fs)) {tot : Nat} (hc : P.cellsOf t = tot) (h : ReadsFs2 enc P w fs.toList 0 tot E Q m) : Reads2 enc P w t E Q (fun a => m a + 1) := by
  intro fuel cs x hx
  obtain ⟨xs, n, _, rfl, hl, hxl, hf⟩ := DataW.trod_struct ht hx
  obtain ⟨a, ha, qa, ma⟩ := h cs xs (by rw [hxl]; simp) (fun i f hf' => ⟨n, hf i f (by simpa using hf')⟩)
  refine ⟨a, ?_, fun hw => qa (fun k hk => hw k ?_), ?_⟩
  · rw [← ha, List.drop_zero, List.take_of_length_le (by omega)]
  · simp only [DataW.weights, ht]
    exact hk
  · simp only [Rows.uptoBulk]
    omega

theorem bulk_sum {γ : Type} {H : Type} (m : γ → Nat) (D : Nat → DataW H) : ∀ (xs : List γ) (o : Nat), (∀ k (hk : k < xs.length), m xs[k] ≤ Rows.uptoBulk (D (o + k))) → (xs.map m).sum ≤ Rows.uptoBulkAll ((List.range' o xs.length).map D)
  | [], o, _ => by simp [Rows.uptoBulkAll]
  | x :: xs, o, h => by
    have h0 := h 0 (by simp)
    have h1 := bulk_sum m D xs (o + 1) (fun k hk => by
      have := h (k + 1) (by simpa using hk)
      simpa [Nat.add_assoc, Nat.add_comm 1 k] using this)
    simp only [List.map_cons, List.sum_cons, List.length_cons, List.range'_succ, Rows.uptoBulkAll]
    simp at h0
    omega
theorem mem_weightsAll {H : Type} {P : Program} {e : TypeId} {d : DataW H} : ∀ {l : List (DataW H)}, d ∈ l → ∀ n ∈ d.weights P e, n ∈ DataW.weightsAll P e l
  | [], h, _, _ => by cases h
  | x :: l, h, n, hn => by
    simp only [DataW.weightsAll]
    rcases List.mem_cons.1 h with rfl | h
    · exact List.mem_append_left _ hn
    · exact List.mem_append_right _ (mem_weightsAll h n hn)

/-- a slice of what reads; by_: the bytes of an element -/
theorem reads2_slice {e : TypeId} {sz by_ : Nat} (ht : P.underlying t = some (.slice e)) (hc : P.cellsOf e = sz) (hby : P.bytesOf e = by_) (hE : ∀ a, (E a).length = sz) (hs : 0 < sz) (h : Reads2 enc P w e E Q m) :
    Reads2 enc P w t (fun s : Value × List α => [s.1]) (fun s => Sl w w.heap.size s.1 sz s.2.length (s.2.flatMap E) ∧ s.2.length * by_ ≤ 140737488351232 ∧ ∀ a ∈ s.2, Q a) (fun s => (s.2.map m).sum + 1) := by
  intro fuel cs x hx
  rcases open_slice ht hx with ⟨rfl, rfl⟩ | ⟨a, len, cap, mm, n, D, Pl, rfl, _, hl, hm, hmm, rfl, hel⟩
  · exact ⟨(.slice none 0 0, []), rfl, fun _ => ⟨Sl.nil _ _ _, by simp, by simp⟩, by simp [Rows.uptoBulk]⟩
  · have hm2 : len ≤ mm := by rw [hmm]; split <;> omega
    obtain ⟨xs, hxl, hxs⟩ := choose_list (fun k a' => ((Light P e (D k) → Q a') ∧ m a' ≤ Rows.uptoBulk (D k)) ∧ ∀ i, i < sz → w.cell? ((a.add (k * sz)).add i) = (E a')[i]?) len (fun k hk => by
      obtain ⟨cs', h1, h2⟩ := hel k (by omega)
      rw [hc] at h1
      obtain ⟨_, h3, h4⟩ := World.cells?_some h1
      obtain ⟨a', rfl, qa, ma⟩ := h n cs' _ h2
      exact ⟨a', ⟨qa, ma⟩, h4⟩)
    refine ⟨(.slice (some a) len cap, xs), rfl, fun hw => ⟨?_, ?_, ?_⟩, ?_⟩
    · refine ⟨by rw [flat_len E sz hE], some a, cap, by rw [hxl], by show xs.length ≤ cap; omega, by unfold maxLen at hm; omega, fun hn => ⟨a, rfl, ?_, ?_⟩⟩
      · have h0 := (hxs 0 (by omega)).2 0 hs
        rw [add_add'] at h0
        have h1 : ∃ u, (E xs[0])[0]? = some u := ⟨_, List.getElem?_eq_getElem (by rw [hE]; exact hs)⟩
        obtain ⟨u, hu⟩ := h1
        rw [hu] at h0
        have := World.block_lt_of_cell? w _ h0
        rwa [add_blk] at this
      · intro j u hu
        obtain ⟨k, hk, i, hi, rfl, hv⟩ := flat_at E sz hE xs j u hu
        have := (hxs k hk).2 i hi
        rw [hv, add_add'] at this
        exact this
    · have h1 := hw ((((List.range len).map D).length + ((List.range (mm - len)).map fun j => D (len + j)).length) * P.bytesOf e) (by simp only [DataW.weights, ht]; exact List.mem_cons_self)
      have h2 : len * by_ ≤ (((List.range len).map D).length + ((List.range (mm - len)).map fun j => D (len + j)).length) * P.bytesOf e := by
        rw [hby]
        exact Nat.mul_le_mul_right _ (by simp)
      have h3 : reachBytes = 140737488351232 := rfl
      show xs.length * by_ ≤ _
      rw [hxl]
      omega
    · intro a' ha'
      obtain ⟨k, hk, rfl⟩ := List.getElem_of_mem ha'
      refine (hxs k hk).1.1 (fun n hn => hw n ?_)
      simp only [DataW.weights, ht]
      refine List.mem_cons_of_mem _ (List.mem_append_left _ (mem_weightsAll (d := D k) ?_ n hn))
      simp
      exact ⟨k, by rw [← hxl]; exact hk, rfl⟩
    · have h1 := bulk_sum m D xs 0 (fun k hk => by simpa using (hxs k hk).1.2)
      rw [hxl, ← List.range_eq_range'] at h1
      simp only [Rows.uptoBulk]
      omega
/-- a parameter that is a slice -/
theorem open_pslice2 {e : TypeId} {r : Reach} {b0 : Nat} {v : Value} {d : DataW H} {p : List MemPlace} {Q : Value × List α → Prop} {m : Value × List α → Nat} (ht : P.underlying t = some (.slice e)) (hv : Value.okWide P w r b0 t v)
    (h0 : DataW.Trod enc P w 0 (fun _ => true) true t v d p) (h : Reads2 enc P w t (fun s : Value × List α => [s.1]) Q m) (hl : Light P t d) : ∃ s, v = s.1 ∧ Q s ∧ m s ≤ Rows.uptoBulk d := by
  obtain ⟨A, len, cap, rfl⟩ := okWide_slice ht hv
  obtain ⟨fuel, hf⟩ := h0
  obtain ⟨s, hs, hq, hm⟩ := h fuel _ _ hf
  exact ⟨s, by simpa [Value.cells] using hs, hq hl, hm⟩
/-- a parameter that is a struct -/
theorem open_pstruct2 {fs : Array Field} {r : Reach} {b0 : Nat} {v : Value} {d : DataW H} {p : List MemPlace} (ht : P.underlying t = some (.struct fs)) (hv : Value.okWide P w r b0 t v)
    (h0 : DataW.Trod enc P w 0 (fun _ => true) true t v d p) (h : Reads2 enc P w t E Q m) (hl : Light P t d) : ∃ a, v = .agg (E a).toArray ∧ Q a ∧ m a ≤ Rows.uptoBulk d := by
  obtain ⟨cs, rfl, _⟩ := okWide_struct ht hv
  obtain ⟨fuel, hf⟩ := h0
  obtain ⟨a, ha, hq, hm⟩ := h fuel _ _ hf
  exact ⟨a, by simp only [Value.cells] at ha; rw [← ha], hq hl, hm⟩
theorem light_of {ts : List TypeId} {ds : List (DataW H)} (hsz : (DataW.weightsEach P ts ds).all (· ≤ reachBytes) = true) (j : Nat) {t : TypeId} {d : DataW H} (ht : ts[j]? = some t) (hd : ds[j]? = some d) : Light P t d := by
  intro n hn
  have h := List.all_eq_true.1 hsz n (DataW.weights_mem_each ht hd n hn)
  simpa using h
end

end Go.Proofs.Ytkobaidamdffmaa
