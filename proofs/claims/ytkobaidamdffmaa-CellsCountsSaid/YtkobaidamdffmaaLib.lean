/- Small words on worlds: a block known whole, what a call may have changed. -/
import Derived.WalkKit
import Derived.WalkSpells
import Derived.WalkLawsBesides
import Derived.ScopeJumps
namespace Go.Proofs.Ytkobaidamdffmaa
open Go.RowKit
set_option linter.unusedVariables false
set_option linter.unusedSimpArgs false

theorem hide {p : Prop} (h : p) : Hid p := h

/-- Block g is just the cells cs of element type t, none frozen. -/
def Blk (w : World) (g : Nat) (t : TypeId) (cs : Array Value) : Prop := w.heap[g]? = some (.cells cs t (0, 0))

section
variable {w w' : World} {g : Nat} {t : TypeId} {cs : Array Value}
theorem Blk.lt (h : Blk w g t cs) : g < w.heap.size := by
  rcases Nat.lt_or_ge g w.heap.size with hlt | hge
  · exact hlt
  · unfold Blk at h
    rw [Array.getElem?_eq_none hge] at h
    cases h
theorem Blk.cell (h : Blk w g t cs) (i : Nat) : w.cell? ⟨g, i, none⟩ = cs[i]? := cell_of_row w g i cs t (0, 0) h
theorem Blk.frozen (h : Blk w g t cs) (i : Nat) : w.frozen? ⟨g, i, none⟩ = false := by
  unfold Blk at h
  simp [World.frozen?, h]
theorem Blk.new (w : World) (t : TypeId) (cs : Array Value) : Blk (w.alloc (.cells cs t)) w.heap.size t cs := heap_alloc_new w _
theorem Blk.to (h : Blk w g t cs) (e : w'.heap[g]? = w.heap[g]?) : Blk w' g t cs := e.trans h
theorem Blk.alloc (h : Blk w g t cs) (o : Obj) : Blk (w.alloc o) g t cs := (Below.heap_alloc w o g h.lt).trans h
theorem Blk.drew (h : Blk w g t cs) : Blk w.drew g t cs := h
theorem Blk.drewN (h : Blk w g t cs) (n : Nat) : Blk (w.drewN n) g t cs := h
theorem Blk.put (h : Blk w g t cs) (i : Nat) (u : Value) : Blk (w.setCell ⟨g, i, none⟩ u) g t (cs.setIfInBounds i u) := by
  unfold Blk at h ⊢
  simp [World.setCell, Array.getElem?_modify, h]
theorem Blk.far (h : Blk w g t cs) {p : Addr} (hp : g ≠ p.block) (u : Value) : Blk (w.setCell p u) g t cs := (Below.heap_setCell w p u g hp).trans h
theorem Blk.below {B : Nat} (h : Blk w g t cs) (hb : Below B w w') (hg : g < B) : Blk w' g t cs := (hb.block g hg).trans h
theorem Blk.grown {row : Option Nat} (h : Blk w g t cs) (hb : w.grownBy w' row) (hg : some g ≠ row) : Blk w' g t cs := (hb.block g h.lt hg).trans h
theorem Blk.apart {g' : Nat} {t' : TypeId} {cs' : Array Value} (h : Blk w g t cs) (h' : Blk w g' t' cs') (hne : t ≠ t') : g ≠ g' := by
  rintro rfl
  unfold Blk at h h'
  rw [h] at h'
  injection h' with h'
  injection h' with _ ht
  exact hne ht
end

/-- A scope that a run may leave ahead, by a goto to a label further down: what is owed there is the walk of what stands behind the label. -/
theorem wp_scope_ahead {P : Program} {a : Act} {w : World} {Q : Exit → Act → World → Prop} {c rest : Code} (l : Nat) (hf : findLabel c l = some rest)
    (first : c.wp P (Exit.jump l (fun a w => rest.wp P (Exit.noGoto Q) a w) Q) a w) : (Code.scope c).wp P Q a w :=
  wp_scope_jumps l (fun a w => rest.wp P (Exit.noGoto Q) a w) (fun _ _ => 0) hf first
    (fun _ _ h => Code.wp_mono (fun e a w q => by cases e <;> first | exact q | exact q.elim) h)
section
variable {l : Nat} {J : Act → World → Prop} {Q : Exit → Act → World → Prop} {a : Act} {w : World}
theorem jump_ret : Exit.jump l J Q .ret a w = Q .ret a w := rfl
theorem jump_normal : Exit.jump l J Q .normal a w = Q .normal a w := rfl
theorem jump_goto : Exit.jump l J Q (.goto l) a w = J a w := by simp [Exit.jump]
end

/-- Of the blocks that w has, those outside of S are in w' as they were. -/
structure Fr (S : Nat → Prop) (w w' : World) : Prop where
  os : w'.os = w.os
  tape : w'.tape = w.tape
  output : w'.output = w.output
  size : w.heap.size ≤ w'.heap.size
  block : ∀ k, k < w.heap.size → ¬ S k → w'.heap[k]? = w.heap[k]?

abbrev nob : Nat → Prop := fun _ => False

section
variable {S T : Nat → Prop} {w w1 w2 : World}
theorem Fr.refl (S : Nat → Prop) (w : World) : Fr S w w := ⟨rfl, rfl, rfl, Nat.le_refl _, fun _ _ _ => rfl⟩
theorem Fr.mono (h : Fr S w w1) (hs : ∀ k, k < w.heap.size → S k → T k) : Fr T w w1 := ⟨h.os, h.tape, h.output, h.size, fun k hk ht => h.block k hk (fun s => ht (hs k hk s))⟩
theorem Fr.trans (h : Fr S w w1) (k : Fr T w1 w2) (hs : ∀ k, k < w.heap.size → T k → S k) : Fr S w w2 :=
  ⟨k.os.trans h.os, k.tape.trans h.tape, k.output.trans h.output, Nat.le_trans h.size k.size,
   fun i hi ns => (k.block i (Nat.lt_of_lt_of_le hi h.size) (fun t => ns (hs i hi t))).trans (h.block i hi ns)⟩
theorem Fr.alloc (h : Fr S w w1) (o : Obj) : Fr S w (w1.alloc o) :=
  h.trans (T := nob) ⟨rfl, rfl, rfl, by simp, fun k hk _ => Below.heap_alloc _ _ _ hk⟩ (fun _ _ f => f.elim)
theorem Fr.drew (h : Fr S w w1) : Fr S w w1.drew := ⟨h.os, h.tape, h.output, h.size, h.block⟩
theorem Fr.drewN (h : Fr S w w1) (n : Nat) : Fr S w (w1.drewN n) := ⟨h.os, h.tape, h.output, h.size, h.block⟩
theorem Fr.put (h : Fr S w w1) {p : Addr} (hp : S p.block ∨ w.heap.size ≤ p.block) (u : Value) : Fr S w (w1.setCell p u) :=
  ⟨h.os, h.tape, h.output, by simpa [World.setCell] using h.size, fun k hk ns => (Below.heap_setCell w1 p u k (by
    rintro rfl
    rcases hp with hp | hp
    · exact ns hp
    · omega)).trans (h.block k hk ns)⟩
theorem Fr.put1 {b : Nat} (h : Fr (fun k => k = b) w w1) (i : Nat) (u : Value) : Fr (fun k => k = b) w (w1.setCell ⟨b, i, none⟩ u) := h.put (.inl rfl) u
theorem Fr.putN (h : Fr S w w1) {g : Nat} (hg : w.heap.size ≤ g) (i : Nat) (u : Value) : Fr S w (w1.setCell ⟨g, i, none⟩ u) := h.put (.inr hg) u
theorem Fr.of_grown {row : Option Nat} (h : w.grownBy w1 row) : Fr (fun k => row = some k) w w1 := ⟨h.os, h.tape, h.output, h.size, fun k hk hn => h.block k hk (fun e => hn e.symm)⟩
theorem Fr.of_below (h : Below w.heap.size w w1) : Fr S w w1 := ⟨h.os, h.tape, h.output, h.size, fun k hk _ => h.block k hk⟩
theorem Fr.below {B : Nat} (h : Fr S w w1) (hB : B ≤ w.heap.size) (hs : ∀ k, k < B → ¬ S k) : Below B w w1 := ⟨h.os, h.tape, h.output, h.size, fun k hk => h.block k (Nat.lt_of_lt_of_le hk hB) (hs k hk)⟩
theorem Fr.below0 (h : Fr nob w w1) : Below w.heap.size w w1 := ⟨h.os, h.tape, h.output, h.size, fun k hk => h.block k hk id⟩
theorem Fr.cell (h : Fr S w w1) (b o : Nat) (hb : b < w.heap.size) (hs : ¬ S b) : w1.cell? ⟨b, o, none⟩ = w.cell? ⟨b, o, none⟩ := World.cell?_of_block (w := w) (h.block b hb hs)
theorem Fr.frozen (h : Fr S w w1) (b o : Nat) (hb : b < w.heap.size) (hs : ¬ S b) : w1.frozen? ⟨b, o, none⟩ = w.frozen? ⟨b, o, none⟩ := World.frozen?_of_block (w := w) (h.block b hb hs)
theorem Fr.blk {g : Nat} {t : TypeId} {cs : Array Value} (h : Fr S w w1) (b : Blk w g t cs) (hs : ¬ S g) : Blk w1 g t cs := (h.block g b.lt hs).trans b
end

/-- a block of two or three cells: its cells, and that it is there -/
theorem Blk.two {w : World} {g t : Nat} {a b : Value} (h : Blk w g t #[a, b]) : w.cell? ⟨g, 0, none⟩ = some a ∧ w.cell? ⟨g, 1, none⟩ = some b ∧ g < w.heap.size := ⟨h.cell 0, h.cell 1, h.lt⟩
theorem Blk.three {w : World} {g t : Nat} {a b c : Value} (h : Blk w g t #[a, b, c]) : w.cell? ⟨g, 0, none⟩ = some a ∧ w.cell? ⟨g, 1, none⟩ = some b ∧ w.cell? ⟨g, 2, none⟩ = some c ∧ g < w.heap.size := ⟨h.cell 0, h.cell 1, h.cell 2, h.lt⟩

/-- From ad on lie the cells cs. -/
def Has (w : World) (ad : Addr) (cs : List Value) : Prop := ∀ j u, cs[j]? = some u → w.cell? (ad.add j) = some u

/-- The slice v has n elements of sz cells each; they are cs; they lie below block B. -/
def Sl (w : World) (B : Nat) (v : Value) (sz n : Nat) (cs : List Value) : Prop :=
  cs.length = n * sz ∧ ∃ A c, v = .slice A n c ∧ n ≤ c ∧ c ≤ 9223372036854775807 ∧ (0 < n → ∃ ad, A = some ad ∧ ad.block < B ∧ Has w ad cs)

theorem add_add' (ad : Addr) (i j : Nat) : (ad.add i).add j = ad.add (i + j) := by
  unfold Addr.add
  by_cases hi : i = 0 <;> by_cases hj : j = 0 <;> simp [hi, hj, Nat.add_assoc]
theorem add_blk (ad : Addr) (i : Nat) : (ad.add i).block = ad.block := by
  unfold Addr.add
  split <;> rfl
theorem add_fld (ad : Addr) (m j : Nat) (hj : 0 < j) : ad.add (m + j) = ⟨(ad.add m).block, (ad.add m).off + j, none⟩ := by
  unfold Addr.add
  by_cases hm : m = 0
  · subst hm
    have : ¬ (0 + j = 0) := by omega
    simp [this]
    omega
  · have : ¬ (m + j = 0) := by omega
    simp [hm, this]
    omega

section
variable {w w' : World} {B B' n sz : Nat} {v : Value} {cs : List Value} {ad : Addr}
theorem Has.to (h : Has w ad cs) (e : w'.heap[ad.block]? = w.heap[ad.block]?) : Has w' ad cs :=
  fun j u hu => (World.cell?_of_block (w := w) (by rw [add_blk]; exact e)).trans (h j u hu)
theorem Sl.below (h : Sl w B v sz n cs) (hb : Below B w w') : Sl w' B v sz n cs := by
  obtain ⟨h1, A, c, rfl, h2, h3, h5⟩ := h
  refine ⟨h1, A, c, rfl, h2, h3, fun hn => ?_⟩
  obtain ⟨ad, rfl, h4, hh⟩ := h5 hn
  exact ⟨ad, rfl, h4, hh.to (hb.block _ h4)⟩
theorem Sl.mono (h : Sl w B v sz n cs) (hB : B ≤ B') : Sl w B' v sz n cs := by
  obtain ⟨h1, A, c, rfl, h2, h3, h5⟩ := h
  refine ⟨h1, A, c, rfl, h2, h3, fun hn => ?_⟩
  obtain ⟨ad, rfl, h4, hh⟩ := h5 hn
  exact ⟨ad, rfl, Nat.lt_of_lt_of_le h4 hB, hh⟩
theorem Sl.fr {S : Nat → Prop} (h : Sl w B v sz n cs) (hf : Fr S w w') (hB : B ≤ w.heap.size) (hs : ∀ k, k < B → ¬ S k) : Sl w' B v sz n cs := h.below (hf.below hB hs)
theorem Sl.drewN (h : Sl w B v sz n cs) (m : Nat) : Sl (w.drewN m) B v sz n cs := h
theorem Sl.alloc (h : Sl w B v sz n cs) (hB : B ≤ w.heap.size) (o : Obj) : Sl (w.alloc o) B v sz n cs := h.below ((Below.refl _ _).alloc hB o)
theorem Sl.form (h : Sl w B v sz n cs) : ∃ A c, v = .slice A n c ∧ n ≤ c := by
  obtain ⟨_, A, c, rfl, h2, _⟩ := h
  exact ⟨A, c, rfl, h2⟩
theorem Sl.max (h : Sl w B v sz n cs) : n ≤ 9223372036854775807 := by
  obtain ⟨_, A, c, rfl, h2, h3, _⟩ := h
  exact Nat.le_trans h2 h3
theorem Sl.at_ {A : Option Addr} {c : Nat} (h : Sl w B (.slice A n c) sz n cs) {k : Nat} (hk : k < n) : ∃ ad, A = some ad ∧ ad.block < B ∧ Has w (ad.add (k * sz)) ((cs.drop (k * sz)).take sz) := by
  obtain ⟨h1, A, c, hv, h2, h3, h5⟩ := h
  obtain ⟨rfl, _, rfl⟩ : _ = A ∧ True ∧ _ = c := by injection hv; exact ⟨‹_›, trivial, ‹_›⟩
  obtain ⟨ad, rfl, h4, hh⟩ := h5 (by omega)
  refine ⟨ad, rfl, h4, fun j u hu => ?_⟩
  rw [add_add']
  apply hh
  rw [List.getElem?_take] at hu
  split at hu
  · rwa [List.getElem?_drop] at hu
  · cases hu
theorem Sl.nil (w : World) (B sz : Nat) : Sl w B (.slice none 0 0) sz 0 [] := ⟨by simp, none, 0, rfl, by omega, by omega, by omega⟩
theorem Sl.of_row {base : Nat} {e : TypeId} (h : w.ownsRow base e sz v n cs) : Sl w w.heap.size v sz n cs := by
  refine ⟨h.1, ?_⟩
  rcases h.2 with ⟨rfl, rfl⟩ | ⟨g, cap, cur, rfl, hb, hg, hc, hm, _⟩
  · exact ⟨none, 0, rfl, by omega, by omega, by omega⟩
  · refine ⟨_, cap, rfl, hc, by unfold maxLen at hm; omega, fun _ => ⟨_, rfl, ?_, fun j u hu => h.cells (g := g) rfl j u hu⟩⟩
    exact (Array.getElem?_eq_some_iff.1 hg).1
end

/-- one element's cells out of many of the same size -/
theorem part_of {α : Type} (f : α → List Value) (sz : Nat) (hf : ∀ x, (f x).length = sz) : ∀ (xs : List α) (k : Nat) (hk : k < xs.length), ((xs.flatMap f).drop (k * sz)).take sz = f xs[k]
  | [], k, hk => by simp at hk
  | x :: xs, 0, _ => by
    simp only [Nat.zero_mul, List.drop_zero, List.flatMap_cons, List.getElem_cons_zero]
    rw [List.take_append_of_le_length (by rw [hf]; omega), List.take_of_length_le (by rw [hf]; omega)]
  | x :: xs, k + 1, hk => by
    simp only [List.flatMap_cons, List.getElem_cons_succ]
    have e : (k + 1) * sz = (f x).length + k * sz := by rw [hf, Nat.add_mul]; omega
    rw [e, List.drop_append, List.drop_of_length_le (by omega), List.nil_append]
    have : (f x).length + k * sz - (f x).length = k * sz := by omega
    rw [this]
    exact part_of f sz hf xs k (by simpa using hk)
theorem flat_len {α : Type} (f : α → List Value) (sz : Nat) (hf : ∀ x, (f x).length = sz) : ∀ xs : List α, (xs.flatMap f).length = xs.length * sz
  | [] => by simp
  | x :: xs => by
    rw [List.flatMap_cons, List.length_append, flat_len f sz hf xs, hf, List.length_cons, Nat.add_mul]
    omega

end Go.Proofs.Ytkobaidamdffmaa
