/- Small words on worlds: a block known whole, what a call may have changed. / append onto a slice of the call's own, whatever the source is. / A slice cut: its parts read as the list's. -/
import Derived.WalkKit
import Derived.WalkSpells
import Derived.WalkLawsBesides
import Derived.ScopeJumps
import Derived.Maps.AppendAt
import Derived.Deep.RegionLaw

namespace Go.Proofs.Ytkobaidamdffmaa
open Go.RowKit
set_option linter.unusedVariables false
set_option linter.unusedSimpArgs false

theorem hide {p : Prop} (h : p) : Hid p := h

/-- Block g is just the cells cs of element type t, none frozen. -/
def Blk (w : World) (g : Nat) (t : TypeId) (cs : Array Value) : Prop := w.heap[g]? = some (.cells cs t (0, 0))

section
variable {w w' : World} {g : Nat} {t : TypeId} {cs : Array Value}
theorem Blk.lt (h : Blk w g t cs) : g < w.heap.size := by
  rcases Nat.lt_or_ge g w.heap.size with hlt | hge
  · exact hlt
  · unfold Blk at h
    rw [Array.getElem?_eq_none hge] at h
    cases h
theorem Blk.cell (h : Blk w g t cs) (i : Nat) : w.cell? ⟨g, i, none⟩ = cs[i]? := cell_of_row w g i cs t (0, 0) h
theorem Blk.frozen (h : Blk w g t cs) (i : Nat) : w.frozen? ⟨g, i, none⟩ = false := by
  unfold Blk at h
  simp [World.frozen?, h]
theorem Blk.new (w : World) (t : TypeId) (cs : Array Value) : Blk (w.alloc (.cells cs t)) w.heap.size t cs := heap_alloc_new w _
theorem Blk.to (h : Blk w g t cs) (e : w'.heap[g]? = w.heap[g]?) : Blk w' g t cs := e.trans h
theorem Blk.alloc (h : Blk w g t cs) (o : Obj) : Blk (w.alloc o) g t cs := (Below.heap_alloc w o g h.lt).trans h
theorem Blk.drew (h : Blk w g t cs) : Blk w.drew g t cs := h
theorem Blk.drewN (h : Blk w g t cs) (n : Nat) : Blk (w.drewN n) g t cs := h
theorem Blk.put (h : Blk w g t cs) (i : Nat) (u : Value) : Blk (w.setCell ⟨g, i, none⟩ u) g t (cs.setIfInBounds i u) := by
  unfold Blk at h ⊢
  simp [World.setCell, Array.getElem?_modify, h]
theorem Blk.far (h : Blk w g t cs) {p : Addr} (hp : g ≠ p.block) (u : Value) : Blk (w.setCell p u) g t cs := (Below.heap_setCell w p u g hp).trans h
theorem Blk.below {B : Nat} (h : Blk w g t cs) (hb : Below B w w') (hg : g < B) : Blk w' g t cs := (hb.block g hg).trans h
theorem Blk.grown {row : Option Nat} (h : Blk w g t cs) (hb : w.grownBy w' row) (hg : some g ≠ row) : Blk w' g t cs := (hb.block g h.lt hg).trans h
theorem Blk.apart {g' : Nat} {t' : TypeId} {cs' : Array Value} (h : Blk w g t cs) (h' : Blk w g' t' cs') (hne : t ≠ t') : g ≠ g' := by
  rintro rfl
  unfold Blk at h h'
  rw [h] at h'
  injection h' with h'
  injection h' with _ ht
  exact hne ht
end

/-- A scope that a run may leave ahead, by a goto to a label further down: what is owed there is the walk of what stands behind the label. -/
theorem wp_scope_ahead {P : Program} {a : Act} {w : World} {Q : Exit → Act → World → Prop} {c rest : Code} (l : Nat) (hf : findLabel c l = some rest)
    (first : c.wp P (Exit.jump l (fun a w => rest.wp P (Exit.noGoto Q) a w) Q) a w) : (Code.scope c).wp P Q a w :=
  wp_scope_jumps l (fun a w => rest.wp P (Exit.noGoto Q) a w) (fun _ _ => 0) hf first
    (fun _ _ h => Code.wp_mono (fun e a w q => by cases e <;> first | exact q | exact q.elim) h)
section
variable {l : Nat} {J : Act → World → Prop} {Q : Exit → Act → World → Prop} {a : Act} {w : World}
theorem jump_ret : Exit.jump l J Q .ret a w = Q .ret a w := rfl
theorem jump_normal : Exit.jump l J Q .normal a w = Q .normal a w := rfl
theorem jump_goto : Exit.jump l J Q (.goto l) a w = J a w := by simp [Exit.jump]
end

/-- Of the blocks that w has, those outside of S are in w' as they were. -/
structure Fr (S : Nat → Prop) (w w' : World) : Prop where
  os : w'.os = w.os
  tape : w'.tape = w.tape
  output : w'.output = w.output
  size : w.heap.size ≤ w'.heap.size
  block : ∀ k, k < w.heap.size → ¬ S k → w'.heap[k]? = w.heap[k]?

abbrev nob : Nat → Prop := fun _ => False

section
variable {S T : Nat → Prop} {w w1 w2 : World}
theorem Fr.refl (S : Nat → Prop) (w : World) : Fr S w w := ⟨rfl, rfl, rfl, Nat.le_refl _, fun _ _ _ => rfl⟩
theorem Fr.mono (h : Fr S w w1) (hs : ∀ k, k < w.heap.size → S k → T k) : Fr T w w1 := ⟨h.os, h.tape, h.output, h.size, fun k hk ht => h.block k hk (fun s => ht (hs k hk s))⟩
theorem Fr.trans (h : Fr S w w1) (k : Fr T w1 w2) (hs : ∀ k, k < w.heap.size → T k → S k) : Fr S w w2 :=
  ⟨k.os.trans h.os, k.tape.trans h.tape, k.output.trans h.output, Nat.le_trans h.size k.size,
   fun i hi ns => (k.block i (Nat.lt_of_lt_of_le hi h.size) (fun t => ns (hs i hi t))).trans (h.block i hi ns)⟩
theorem Fr.alloc (h : Fr S w w1) (o : Obj) : Fr S w (w1.alloc o) :=
  h.trans (T := nob) ⟨rfl, rfl, rfl, by simp, fun k hk _ => Below.heap_alloc _ _ _ hk⟩ (fun _ _ f => f.elim)
theorem Fr.drew (h : Fr S w w1) : Fr S w w1.drew := ⟨h.os, h.tape, h.output, h.size, h.block⟩
theorem Fr.drewN (h : Fr S w w1) (n : Nat) : Fr S w (w1.drewN n) := ⟨h.os, h.tape, h.output, h.size, h.block⟩
theorem Fr.put (h : Fr S w w1) {p : Addr} (hp : S p.block ∨ w.heap.size ≤ p.block) (u : Value) : Fr S w (w1.setCell p u) :=
  ⟨h.os, h.tape, h.output, by simpa [World.setCell] using h.size, fun k hk ns => (Below.heap_setCell w1 p u k (by
    rintro rfl
    rcases hp with hp | hp
    · exact ns hp
    · omega)).trans (h.block k hk ns)⟩
theorem Fr.put1 {b : Nat} (h : Fr (fun k => k = b) w w1) (i : Nat) (u : Value) : Fr (fun k => k = b) w (w1.setCell ⟨b, i, none⟩ u) := h.put (.inl rfl) u
theorem Fr.putN (h : Fr S w w1) {g : Nat} (hg : w.heap.size ≤ g) (i : Nat) (u : Value) : Fr S w (w1.setCell ⟨g, i, none⟩ u) := h.put (.inr hg) u
theorem Fr.of_grown {row : Option Nat} (h : w.grownBy w1 row) : Fr (fun k => row = some k) w w1 := ⟨h.os, h.tape, h.output, h.size, fun k hk hn => h.block k hk (fun e => hn e.symm)⟩
theorem Fr.of_below (h : Below w.heap.size w w1) : Fr S w w1 := ⟨h.os, h.tape, h.output, h.size, fun k hk _ => h.block k hk⟩
theorem Fr.below {B : Nat} (h : Fr S w w1) (hB : B ≤ w.heap.size) (hs : ∀ k, k < B → ¬ S k) : Below B w w1 := ⟨h.os, h.tape, h.output, h.size, fun k hk => h.block k (Nat.lt_of_lt_of_le hk hB) (hs k hk)⟩
theorem Fr.below0 (h : Fr nob w w1) : Below w.heap.size w w1 := ⟨h.os, h.tape, h.output, h.size, fun k hk => h.block k hk id⟩
theorem Fr.cell (h : Fr S w w1) (b o : Nat) (hb : b < w.heap.size) (hs : ¬ S b) : w1.cell? ⟨b, o, none⟩ = w.cell? ⟨b, o, none⟩ := World.cell?_of_block (w := w) (h.block b hb hs)
theorem Fr.frozen (h : Fr S w w1) (b o : Nat) (hb : b < w.heap.size) (hs : ¬ S b) : w1.frozen? ⟨b, o, none⟩ = w.frozen? ⟨b, o, none⟩ := World.frozen?_of_block (w := w) (h.block b hb hs)
theorem Fr.blk {g : Nat} {t : TypeId} {cs : Array Value} (h : Fr S w w1) (b : Blk w g t cs) (hs : ¬ S g) : Blk w1 g t cs := (h.block g b.lt hs).trans b
end

/-- a block of two or three cells: its cells, and that it is there -/
theorem Blk.two {w : World} {g t : Nat} {a b : Value} (h : Blk w g t #[a, b]) : w.cell? ⟨g, 0, none⟩ = some a ∧ w.cell? ⟨g, 1, none⟩ = some b ∧ g < w.heap.size := ⟨h.cell 0, h.cell 1, h.lt⟩
theorem Blk.three {w : World} {g t : Nat} {a b c : Value} (h : Blk w g t #[a, b, c]) : w.cell? ⟨g, 0, none⟩ = some a ∧ w.cell? ⟨g, 1, none⟩ = some b ∧ w.cell? ⟨g, 2, none⟩ = some c ∧ g < w.heap.size := ⟨h.cell 0, h.cell 1, h.cell 2, h.lt⟩

/-- From ad on lie the cells cs. -/
def Has (w : World) (ad : Addr) (cs : List Value) : Prop := ∀ j u, cs[j]? = some u → w.cell? (ad.add j) = some u

/-- The slice v has n elements of sz cells each; they are cs; they lie below block B. -/
def Sl (w : World) (B : Nat) (v : Value) (sz n : Nat) (cs : List Value) : Prop :=
  cs.length = n * sz ∧ ∃ A c, v = .slice A n c ∧ n ≤ c ∧ c ≤ 9223372036854775807 ∧ (0 < n → ∃ ad, A = some ad ∧ ad.block < B ∧ Has w ad cs)

theorem add_add' (ad : Addr) (i j : Nat) : (ad.add i).add j = ad.add (i + j) := by
  unfold Addr.add
  by_cases hi : i = 0 <;> by_cases hj : j = 0 <;> simp [hi, hj, Nat.add_assoc]
theorem add_blk (ad : Addr) (i : Nat) : (ad.add i).block = ad.block := by
  unfold Addr.add
  split <;> rfl
theorem add_fld (ad : Addr) (m j : Nat) (hj : 0 < j) : ad.add (m + j) = ⟨(ad.add m).block, (ad.add m).off + j, none⟩ := by
  unfold Addr.add
  by_cases hm : m = 0
  · subst hm
    have : ¬ (0 + j = 0) := by omega
    simp [this]
    omega
  · have : ¬ (m + j = 0) := by omega
    simp [hm, this]
    omega

section
variable {w w' : World} {B B' n sz : Nat} {v : Value} {cs : List Value} {ad : Addr}
theorem Has.to (h : Has w ad cs) (e : w'.heap[ad.block]? = w.heap[ad.block]?) : Has w' ad cs :=
  fun j u hu => (World.cell?_of_block (w := w) (by rw [add_blk]; exact e)).trans (h j u hu)
theorem Sl.below (h : Sl w B v sz n cs) (hb : Below B w w') : Sl w' B v sz n cs := by
  obtain ⟨h1, A, c, rfl, h2, h3, h5⟩ := h
  refine ⟨h1, A, c, rfl, h2, h3, fun hn => ?_⟩
  obtain ⟨ad, rfl, h4, hh⟩ := h5 hn
  exact ⟨ad, rfl, h4, hh.to (hb.block _ h4)⟩
theorem Sl.mono (h : Sl w B v sz n cs) (hB : B ≤ B') : Sl w B' v sz n cs := by
  obtain ⟨h1, A, c, rfl, h2, h3, h5⟩ := h
  refine ⟨h1, A, c, rfl, h2, h3, fun hn => ?_⟩
  obtain ⟨ad, rfl, h4, hh⟩ := h5 hn
  exact ⟨ad, rfl, Nat.lt_of_lt_of_le h4 hB, hh⟩
theorem Sl.fr {S : Nat → Prop} (h : Sl w B v sz n cs) (hf : Fr S w w') (hB : B ≤ w.heap.size) (hs : ∀ k, k < B → ¬ S k) : Sl w' B v sz n cs := h.below (hf.below hB hs)
theorem Sl.drewN (h : Sl w B v sz n cs) (m : Nat) : Sl (w.drewN m) B v sz n cs := h
theorem Sl.alloc (h : Sl w B v sz n cs) (hB : B ≤ w.heap.size) (o : Obj) : Sl (w.alloc o) B v sz n cs := h.below ((Below.refl _ _).alloc hB o)
theorem Sl.form (h : Sl w B v sz n cs) : ∃ A c, v = .slice A n c ∧ n ≤ c := by
  obtain ⟨_, A, c, rfl, h2, _⟩ := h
  exact ⟨A, c, rfl, h2⟩
theorem Sl.max (h : Sl w B v sz n cs) : n ≤ 9223372036854775807 := by
  obtain ⟨_, A, c, rfl, h2, h3, _⟩ := h
  exact Nat.le_trans h2 h3
theorem Sl.at_ {A : Option Addr} {c : Nat} (h : Sl w B (.slice A n c) sz n cs) {k : Nat} (hk : k < n) : ∃ ad, A = some ad ∧ ad.block < B ∧ Has w (ad.add (k * sz)) ((cs.drop (k * sz)).take sz) := by
  obtain ⟨h1, A, c, hv, h2, h3, h5⟩ := h
  obtain ⟨rfl, _, rfl⟩ : _ = A ∧ True ∧ _ = c := by injection hv; exact ⟨‹_›, trivial, ‹_›⟩
  obtain ⟨ad, rfl, h4, hh⟩ := h5 (by omega)
  refine ⟨ad, rfl, h4, fun j u hu => ?_⟩
  rw [add_add']
  apply hh
  rw [List.getElem?_take] at hu
  split at hu
  · rwa [List.getElem?_drop] at hu
  · cases hu
theorem Sl.nil (w : World) (B sz : Nat) : Sl w B (.slice none 0 0) sz 0 [] := ⟨by simp, none, 0, rfl, by omega, by omega, by omega⟩
theorem Sl.of_row {base : Nat} {e : TypeId} (h : w.ownsRow base e sz v n cs) : Sl w w.heap.size v sz n cs := by
  refine ⟨h.1, ?_⟩
  rcases h.2 with ⟨rfl, rfl⟩ | ⟨g, cap, cur, rfl, hb, hg, hc, hm, _⟩
  · exact ⟨none, 0, rfl, by omega, by omega, by omega⟩
  · refine ⟨_, cap, rfl, hc, by unfold maxLen at hm; omega, fun _ => ⟨_, rfl, ?_, fun j u hu => h.cells (g := g) rfl j u hu⟩⟩
    exact (Array.getElem?_eq_some_iff.1 hg).1
end

/-- one element's cells out of many of the same size -/
theorem part_of {α : Type} (f : α → List Value) (sz : Nat) (hf : ∀ x, (f x).length = sz) : ∀ (xs : List α) (k : Nat) (hk : k < xs.length), ((xs.flatMap f).drop (k * sz)).take sz = f xs[k]
  | [], k, hk => by simp at hk
  | x :: xs, 0, _ => by
    simp only [Nat.zero_mul, List.drop_zero, List.flatMap_cons, List.getElem_cons_zero]
    rw [List.take_append_of_le_length (by rw [hf]; omega), List.take_of_length_le (by rw [hf]; omega)]
  | x :: xs, k + 1, hk => by
    simp only [List.flatMap_cons, List.getElem_cons_succ]
    have e : (k + 1) * sz = (f x).length + k * sz := by rw [hf, Nat.add_mul]; omega
    rw [e, List.drop_append, List.drop_of_length_le (by omega), List.nil_append]
    have : (f x).length + k * sz - (f x).length = k * sz := by omega
    rw [this]
    exact part_of f sz hf xs k (by simpa using hk)
theorem flat_len {α : Type} (f : α → List Value) (sz : Nat) (hf : ∀ x, (f x).length = sz) : ∀ xs : List α, (xs.flatMap f).length = xs.length * sz
  | [] => by simp
  | x :: xs => by
    rw [List.flatMap_cons, List.length_append, flat_len f sz hf xs, hf, List.length_cons, Nat.add_mul]
    omega

end Go.Proofs.Ytkobaidamdffmaa

namespace Go.Proofs.Ytkobaidamdffmaa
open Go.RowKit
set_option linter.unusedVariables false
set_option linter.unusedSimpArgs false

/-- t is the type of slices of e, whose elements take sz cells and by bytes and begin as z. -/
structure SlTy (P : Program) (t e sz by_ : Nat) (z : Value) : Prop where
  ht : P.underlying t = some (.slice e)
  hi : ∃ i, P.info? e = some i ∧ i.zero = some z ∧ i.size = sz ∧ i.bytes = by_
  hz : z.cells.size = sz
  hs : 0 < sz

/-- the slice v, made by the call behind block base, with n elements, their cells xs (its block may have more cells than its capacity says: a cut) -/
def Own (w : World) (base e sz : Nat) (v : Value) (n : Nat) (xs : List Value) : Prop :=
  xs.length = n * sz ∧
  ((v = .slice none 0 0 ∧ n = 0) ∨
   ∃ g cap cur, v = .slice (some ⟨g, 0, none⟩) n cap ∧ base ≤ g ∧ w.heap[g]? = some (.cells cur e (0, 0)) ∧ n ≤ cap ∧ cap ≤ maxLen ∧ cap * sz ≤ cur.size ∧ cur.toList.take (n * sz) = xs)
theorem Own.of_row {w : World} {base e sz n : Nat} {v : Value} {xs : List Value} (h : w.ownsRow base e sz v n xs) : Own w base e sz v n xs := by
  refine ⟨h.1, ?_⟩
  rcases h.2 with h2 | ⟨g, cap, cur, rfl, h1, h2, h3, h4, h5, h6⟩
  · exact .inl h2
  · exact .inr ⟨g, cap, cur, rfl, h1, h2, h3, h4, Nat.le_of_eq h5.symm, h6⟩
theorem Own.cells {w : World} {base e sz n : Nat} {v : Value} {xs : List Value} (h : Own w base e sz v n xs) {g : Nat} (hg : v.ownBlock = some g) : ∀ j u, xs[j]? = some u → w.cell? ((⟨g, 0, none⟩ : Addr).add j) = some u := by
  rcases h.2 with ⟨rfl, _⟩ | ⟨g', cap, cur, rfl, _, hh, _, _, _, hx⟩
  · cases hg
  · obtain rfl : g' = g := by simpa [Value.ownBlock] using hg
    intro j u hj
    rw [← hx, List.getElem?_take] at hj
    split at hj
    · have hadd : (⟨g', 0, none⟩ : Addr).add j = ⟨g', j, none⟩ := by unfold Addr.add; split <;> simp_all
      rw [hadd, cell_of_row w g' j cur e (0, 0) hh]
      simpa using hj
    · cases hj
theorem Sl.of_own {w : World} {base e sz n : Nat} {v : Value} {cs : List Value} (h : Own w base e sz v n cs) : Sl w w.heap.size v sz n cs := by
  refine ⟨h.1, ?_⟩
  rcases h.2 with ⟨rfl, rfl⟩ | ⟨g, cap, cur, rfl, hb, hg, hc, hm, _⟩
  · exact ⟨none, 0, rfl, by omega, by omega, by omega⟩
  · refine ⟨_, cap, rfl, hc, by unfold maxLen at hm; omega, fun _ => ⟨_, rfl, ?_, fun j u hu => h.cells (g := g) rfl j u hu⟩⟩
    exact (Array.getElem?_eq_some_iff.1 hg).1

section
variable {w w' : World} {base e sz n : Nat} {v : Value} {xs : List Value}
theorem Own.sl (h : Own w base e sz v n xs) : Sl w w.heap.size v sz n xs := Sl.of_own h
theorem Own.nil (w : World) (base e sz : Nat) : Own w base e sz (.slice none 0 0) 0 [] := Own.of_row (World.ownsRow_nil w base e sz)
theorem Own.to (h : Own w base e sz v n xs) (hk : ∀ g, v.ownBlock = some g → w'.heap[g]? = w.heap[g]?) : Own w' base e sz v n xs := by
  refine ⟨h.1, ?_⟩
  rcases h.2 with h2 | ⟨g, cap, cur, rfl, hb, hg, rest⟩
  · exact .inl h2
  · exact .inr ⟨g, cap, cur, rfl, hb, (hk g rfl).trans hg, rest⟩
theorem Own.lt (h : Own w base e sz v n xs) : ∀ g, v.ownBlock = some g → base ≤ g ∧ g < w.heap.size := by
  intro k hk
  rcases h.2 with ⟨rfl, _⟩ | ⟨g, cap, cur, rfl, hb, hg, _⟩
  · cases hk
  · obtain rfl : g = k := by simpa [Value.ownBlock] using hk
    exact ⟨hb, (Array.getElem?_eq_some_iff.1 hg).1⟩
theorem Own.below (h : Own w base e sz v n xs) (hb : Below w.heap.size w w') : Own w' base e sz v n xs := h.to fun g hg => hb.block g (h.lt g hg).2
theorem Own.alloc (h : Own w base e sz v n xs) (o : Obj) : Own (w.alloc o) base e sz v n xs := h.below ((Below.refl _ _).alloc (Nat.le_refl _) o)
theorem Own.drew (h : Own w base e sz v n xs) : Own w.drew base e sz v n xs := h
theorem Own.drewN (h : Own w base e sz v n xs) (m : Nat) : Own (w.drewN m) base e sz v n xs := h
theorem Own.fr {S : Nat → Prop} (h : Own w base e sz v n xs) (hf : Fr S w w') (hs : ∀ g, v.ownBlock = some g → ¬ S g) : Own w' base e sz v n xs := h.to fun g hg => hf.block g (h.lt g hg).2 (hs g hg)
theorem Own.typed (h : Own w base e sz v n xs) : ∀ g, v.ownBlock = some g → ∃ cs, Blk w g e cs := by
  intro g hg
  rcases h.2 with ⟨rfl, _⟩ | ⟨g', cap, cur, rfl, _, hh, _⟩
  · simp [Value.ownBlock] at hg
  · simp [Value.ownBlock] at hg
    subst hg
    exact ⟨cur, hh⟩
/-- a row lies in another block than a block of another type -/
theorem Own.ne {g t : Nat} {cs : Array Value} (h : Own w base e sz v n xs) (hb : Blk w g t cs) (hne : e ≠ t) : v.ownBlock ≠ some g := by
  intro he
  obtain ⟨cs', hc⟩ := h.typed g he
  exact (hc.apart hb hne) rfl
theorem Own.put (h : Own w base e sz v n xs) {p : Addr} (hp : v.ownBlock ≠ some p.block) (u : Value) : Own (w.setCell p u) base e sz v n xs :=
  h.to fun g hg => Below.heap_setCell w p u g (by rintro rfl; exact hp hg)
theorem Own.lower {base' : Nat} (h : Own w base e sz v n xs) (hb : base' ≤ base) : Own w base' e sz v n xs := by
  refine ⟨h.1, ?_⟩
  rcases h.2 with h2 | ⟨g, cap, cur, rfl, hb', rest⟩
  · exact .inl h2
  · exact .inr ⟨g, cap, cur, rfl, by omega, rest⟩
theorem Own.len (h : Own w base e sz v n xs) : xs.length = n * sz := h.1
/-- an empty literal, or any block made whole -/
theorem Own.new (w : World) (base : Nat) (cur : Array Value) (hb : base ≤ w.heap.size) (hm : n ≤ 9223372036854775807) (hs : cur.size = n * sz) : Own (w.alloc (.cells cur e)) base e sz (.slice (some ⟨w.heap.size, 0, none⟩) n n) n cur.toList := by
  refine ⟨by simpa using hs, .inr ⟨w.heap.size, n, cur, rfl, hb, heap_alloc_new w _, Nat.le_refl _, by unfold maxLen; omega, Nat.le_of_eq hs.symm, ?_⟩⟩
  rw [List.take_of_length_le (by simp; omega)]
end

/-- a part from the beginning, with a smaller capacity -/
theorem Own.cut {w : World} {base e sz n c k d : Nat} {A : Option Addr} {xs : List Value} (h : Own w base e sz (.slice A n c) n xs) (hk : k ≤ n) (hd : k ≤ d) (hc : d ≤ c) : Own w base e sz (.slice A k d) k (xs.take (k * sz)) := by
  have hl : k * sz ≤ n * sz := Nat.mul_le_mul_right _ hk
  refine ⟨by rw [List.length_take, h.1]; omega, ?_⟩
  rcases h.2 with ⟨h1, rfl⟩ | ⟨g, cap, cur, h1, h2, h3, h4, h5, h6, h7⟩
  · injection h1 with h1 _ h8
    subst h1
    subst h8
    obtain rfl : k = 0 := by omega
    obtain rfl : d = 0 := by omega
    exact .inl ⟨rfl, rfl⟩
  · injection h1 with h1 _ h8
    subst h1
    subst h8
    refine .inr ⟨g, d, cur, rfl, h2, h3, hd, by omega, Nat.le_trans (Nat.mul_le_mul_right _ hc) h6, ?_⟩
    rw [← h7, List.take_take]
    congr 1
    omega

/-- what append leaves -/
structure App (w : World) (base e sz : Nat) (v : Value) (n : Nat) (xs : List Value) (v' : Value) (w' : World) : Prop where
  own : Own w' base e sz v' n xs
  fr : Fr (fun k => v.ownBlock = some k) w w'
  at_ : v'.ownBlock = v.ownBlock ∨ v'.ownBlock = some w.heap.size

section
variable {P : Program} {w : World} {t e sz by_ : Nat} {z : Value}

theorem run_app (T : SlTy P t e sz by_ z) (ty base : Nat) {v x : Value} {n m B : Nat} {xs news : List Value} (hv : Own w base e sz v n xs) (hx : Sl w B x sz m news) (h1 : ∀ u ∈ news, u.oneCell' = true)
    (hm : n + m ≤ 9223372036854775807) (hbytes : (n + m) * by_ ≤ 140737488355328) (hbase : base ≤ w.heap.size) :
    ∃ v' w', (Builtin.append_ #[t, t] ty #[v, x]).run P w = .ok v' w' ∧ App w base e sz v (n + m) (xs ++ news) v' w' := by
  obtain ⟨i, hi, hz, hsz, hb⟩ := T.hi
  obtain ⟨hl, A, c, rfl, hmc, hc, hx⟩ := hx
  subst hsz
  subst hb
  have hlen : (xs ++ news).length = (n + m) * i.size := by rw [List.length_append, hv.1, hl, Nat.add_mul]
  have hns : ∀ ad : Addr, A = some ad → ∀ j u, news[j]? = some u → w.cell? (ad.add j) = some u := by
    intro ad hA j u hu
    by_cases hm0 : m = 0
    · have hn : news = [] := List.eq_nil_of_length_eq_zero (by rw [hl, hm0, Nat.zero_mul])
      rw [hn] at hu
      cases hu
    · obtain ⟨ad', h8, _, hh⟩ := hx (by omega)
      rw [hA] at h8
      injection h8 with h8
      subst h8
      exact hh j u hu
  have grown : ∀ (old : Nat), old < n + m → ∀ (S : Nat → Prop),
      Own (w.drew.alloc (.cells (xs.toArray ++ news.toArray ++ Builtin.zeroCells z.cells (grownCap w (n + m) old e - (n + m))) e)) base e i.size
        (.slice (some ⟨w.heap.size, 0, none⟩) (n + m) (grownCap w (n + m) old e)) (n + m) (xs ++ news) ∧
      Fr S w (w.drew.alloc (.cells (xs.toArray ++ news.toArray ++ Builtin.zeroCells z.cells (grownCap w (n + m) old e - (n + m))) e)) := by
    intro old ho S
    have hge := grownCap_ge w (n + m) old e
    have hcm : grownCap w (n + m) old e ≤ maxLen := grownCap_le_maxLen w (n + m) old e (by unfold maxLen; omega)
    refine ⟨⟨hlen, .inr ⟨w.heap.size, _, _, rfl, hbase, heap_alloc_new w.drew _, hge, hcm, ?_, ?_⟩⟩, (Fr.refl S w).drew.alloc _⟩
    · simp only [Array.size_append, List.size_toArray, size_zeroCells, T.hz, hv.1, hl, ← Nat.add_mul]
      refine Nat.mul_le_mul_right _ ?_
      omega
    · simp only [Array.toList_append, List.append_assoc]
      rw [← List.append_assoc, ← hlen]
      exact List.take_left
  by_cases hm0 : m = 0
  · subst hm0
    have hn : news = [] := List.eq_nil_of_length_eq_zero (by rw [hl, Nat.zero_mul])
    subst hn
    have hrun : (Builtin.append_ #[t, t] ty #[v, .slice A 0 c]).run P w = .ok v w := by
      rcases hv.2 with ⟨rfl, rfl⟩ | ⟨g, cap, cur, rfl, _, _, hnc, _⟩ <;> cases A <;>
        simp [Builtin.append_, run_underlying T.ht, sizeOf, typeInfo, hi, Builtin.lenOf, Builtin.firstCells, loadCells, loadCellsFrom, storeCells, *]
    exact ⟨v, w, hrun, by simpa using hv, Fr.refl _ _, .inl rfl⟩
  · obtain ⟨ad, rfl, _, hh⟩ := hx (by omega)
    have hnews := hns ad rfl
    rcases hv.2 with ⟨rfl, rfl⟩ | ⟨g, cap, cur, rfl, hbg, hg, hnc, hcm, hcs, htake⟩
    · have hx0 : xs = [] := List.eq_nil_of_length_eq_zero (by simpa using hv.1)
      subst hx0
      have hr := run_append_nil (P := P) w t ty e i z T.ht hi hz ad m c news hl hnews (by omega) (by omega) (by have hb := hbytes; simp only [Nat.zero_add] at hb; omega)
      have hgr := grown 0 (by omega) (fun k => (Value.slice none 0 0).ownBlock = some k)
      simp only [Nat.zero_add, List.nil_append, Array.empty_append] at hgr ⊢
      exact ⟨_, _, hr, hgr.1, hgr.2, Or.inr rfl⟩
    · by_cases hroom : n + m ≤ cap
      · have hfit : n * i.size + news.length ≤ cur.size := by
          rw [hl, ← Nat.add_mul]
          exact Nat.le_trans (Nat.mul_le_mul_right _ hroom) hcs
        have hr := run_append_room (P := P) w t ty e i T.ht hi g n cap cur hg ad m c news hl hnews h1 hroom hfit
        refine ⟨_, _, hr, ⟨hlen, .inr ⟨g, cap, _, rfl, hbg, setRow_heap w g cur _ e _ hg, hroom, hcm, ?_, ?_⟩⟩, ⟨rfl, rfl, rfl, by simp, fun k _ hk => setRow_other w g k _ (fun e => hk (by simp [Value.ownBlock, e]))⟩, Or.inl rfl⟩
        · simp only [List.size_toArray, List.length_append, List.length_take, List.length_drop, Array.length_toList]
          omega
        · rw [htake, ← hlen]
          exact List.take_left
      · have holds : ∀ j u, xs[j]? = some u → w.cell? ((⟨g, 0, none⟩ : Addr).add j) = some u := hv.cells (g := g) rfl
        have hr := run_append_grow (P := P) w t ty e i z T.ht hi hz ⟨g, 0, none⟩ n cap xs hv.1 holds ad m c news hl hnews (by omega) (by omega) (growslice_fits (by omega) hbytes)
        have hgr := grown cap (by omega) (fun k => (Value.slice (some ⟨g, 0, none⟩) n cap).ownBlock = some k)
        exact ⟨_, _, hr, hgr.1, hgr.2, Or.inr rfl⟩

variable {ops : Array Oper} {o : Oper} {a : Act} {Q : Exit → Act → World → Prop}
theorem wp_app {K : Act → World → Prop} (T : SlTy P t e sz by_ z) (s x : Operand) (ho : o.op = .call { callee := .builtin .append, args := #[s, x], argTypes := #[t, t] })
    (base : Nat) {v xv : Value} {n m B : Nat} {xs news : List Value} (hs : a.eval s = v) (hxv : a.eval x = xv) (hv : Own w base e sz v n xs) (hx : Sl w B xv sz m news) (h1 : ∀ u ∈ news, u.oneCell' = true)
    (hm : n + m ≤ 9223372036854775807) (hbytes : (n + m) * by_ ≤ 140737488355328) (hbase : base ≤ w.heap.size)
    (h : ∀ v' w', App w base e sz v (n + m) (xs ++ news) v' w' → K (a.put o.dst v') w') : o.wp P a w K Q := by
  obtain ⟨v', w', hr, h2⟩ := run_app T o.type base hv hx h1 hm hbytes hbase
  unfold Oper.wp execOp
  simp only [ho, resolve, invoke, builtin, Sem.run_bind, Sem.run_pure, Result.andThen_ok, List.map_toArray, List.map_cons, List.map_nil, hs, hxv, hr]
  exact h v' w' h2
/-- the walk's law at an append -/
theorem wpList_app {rest : List Oper} (hgd : o.guard = none) (T : SlTy P t e sz by_ z) (s x : Operand) (ho : o.op = .call { callee := .builtin .append, args := #[s, x], argTypes := #[t, t] })
    (base : Nat) {v xv : Value} {n m B : Nat} {xs news : List Value} (hs : a.eval s = v) (hxv : a.eval x = xv) (hv : Own w base e sz v n xs) (hx : Sl w B xv sz m news) (h1 : ∀ u ∈ news, u.oneCell' = true)
    (hm : n + m ≤ 9223372036854775807) (hbytes : (n + m) * by_ ≤ 140737488355328) (hbase : base ≤ w.heap.size)
    (h : ∀ v' w', App w base e sz v (n + m) (xs ++ news) v' w' → wpList P ops Q rest (a.put o.dst v') w') : wpList P ops Q (o :: rest) a w :=
  wpList_plain hgd fun _ hK => wp_app T s x ho base hs hxv hv hx h1 hm hbytes hbase fun v' w' h2 => hK _ _ (h v' w' h2)
/-- as a step of a region that draws its order -/
theorem step_app {K : Act → World → Prop} {E : Prop} (hgd : o.guard = none) (T : SlTy P t e sz by_ z) (s x : Operand) (ho : o.op = .call { callee := .builtin .append, args := #[s, x], argTypes := #[t, t] })
    (base : Nat) {v xv : Value} {n m B : Nat} {xs news : List Value} (hs : a.eval s = v) (hxv : a.eval x = xv) (hv : Own w base e sz v n xs) (hx : Sl w B xv sz m news) (h1 : ∀ u ∈ news, u.oneCell' = true)
    (hm : n + m ≤ 9223372036854775807) (hbytes : (n + m) * by_ ≤ 140737488355328) (hbase : base ≤ w.heap.size)
    (h : ∀ v' w', App w base e sz v (n + m) (xs ++ news) v' w' → K (a.put o.dst v') w') : if Region.wanted o (yielded ops a.tmps) = true then Oper.wp P o a w K Q else E := by
  have hw : Region.wanted o (yielded ops a.tmps) = true := by simp [Region.wanted, hgd]
  rw [if_pos hw]
  exact wp_app T s x ho base hs hxv hv hx h1 hm hbytes hbase h
end

end Go.Proofs.Ytkobaidamdffmaa

namespace Go.Proofs.Ytkobaidamdffmaa
open Go.RowKit
set_option linter.unusedVariables false
set_option linter.unusedSimpArgs false
theorem _root_.Go.RowKit.Below.drewN {B : Nat} {a w : World} (h : Below B a w) (n : Nat) : Below B a (w.drewN n) := ⟨h.os, h.tape, h.output, h.size, h.block⟩
section
variable {w : World} {B n sz c k : Nat} {A : Option Addr} {cs : List Value}
theorem Sl.inv (h : Sl w B (.slice A n c) sz n cs) : cs.length = n * sz ∧ n ≤ c ∧ c ≤ 9223372036854775807 ∧ (0 < n → ∃ ad, A = some ad ∧ ad.block < B ∧ Has w ad cs) := by
  obtain ⟨h1, A', c', hv, h2, h3, h5⟩ := h
  obtain ⟨rfl, _, rfl⟩ : A = A' ∧ True ∧ c = c' := by injection hv; exact ⟨‹_›, trivial, ‹_›⟩
  exact ⟨h1, h2, h3, h5⟩
theorem Sl.take (h : Sl w B (.slice A n c) sz n cs) (hk : k ≤ n) : Sl w B (.slice A k c) sz k (cs.take (k * sz)) := by
  obtain ⟨h1, h2, h3, h5⟩ := h.inv
  have hle : k * sz ≤ n * sz := Nat.mul_le_mul_right _ hk
  refine ⟨by rw [List.length_take, h1]; omega, A, c, rfl, by omega, h3, fun hp => ?_⟩
  obtain ⟨ad, rfl, hb, hh⟩ := h5 (by omega)
  refine ⟨ad, rfl, hb, fun j u hu => hh j u ?_⟩
  rw [List.getElem?_take] at hu
  split at hu
  · exact hu
  · cases hu
theorem Sl.drop (h : Sl w B (.slice A n c) sz n cs) (hk : k ≤ n) : Sl w B (.slice (A.map (·.add (k * sz))) (n - k) (c - k)) sz (n - k) (cs.drop (k * sz)) := by
  obtain ⟨h1, h2, h3, h5⟩ := h.inv
  refine ⟨by rw [List.length_drop, h1, Nat.sub_mul], _, _, rfl, by omega, by omega, fun hp => ?_⟩
  obtain ⟨ad, rfl, hb, hh⟩ := h5 (by omega)
  refine ⟨_, rfl, by rw [add_blk]; exact hb, fun j u hu => ?_⟩
  rw [add_add']
  exact hh _ u (by rwa [List.getElem?_drop] at hu)
/-- whatever address the empty rest has -/
theorem Sl.drop' (h : Sl w B (.slice A n c) sz n cs) (hk : k ≤ n) : Sl w B (.slice (if c = k then A else A.map (·.add (k * sz))) (n - k) (c - k)) sz (n - k) (cs.drop (k * sz)) := by
  obtain ⟨h1, h2, h3, h5⟩ := h.inv
  split
  · have : n = k := by omega
    subst this
    refine ⟨by rw [List.length_drop, h1]; simp, A, c - n, rfl, by omega, by omega, fun hp => by omega⟩
  · exact h.drop hk
theorem Sl.drew {v : Value} (h : Sl w B v sz n cs) : Sl w.drew B v sz n cs := h
theorem Sl.put_far {ad : Addr} {p : Addr} (h : Sl w B (.slice A n c) sz n cs) (hA : A = some ad) (hne : ad.block ≠ p.block) (u : Value) : Sl (w.setCell p u) B (.slice A n c) sz n cs := by
  obtain ⟨h1, h2, h3, h5⟩ := h.inv
  refine ⟨h1, A, c, rfl, h2, h3, fun hp => ?_⟩
  obtain ⟨ad', had, hb, hh⟩ := h5 hp
  rw [hA] at had
  injection had with had
  subst had
  exact ⟨ad, hA, hb, hh.to (Below.heap_setCell w p u _ hne)⟩
theorem Own.pos {base e : Nat} {v : Value} (h : Own w base e sz v n cs) (hn : 0 < n) : ∃ g cap, v = .slice (some ⟨g, 0, none⟩) n cap ∧ n ≤ cap ∧ cap ≤ 9223372036854775807 ∧ base ≤ g ∧ g < w.heap.size := by
  rcases h.2 with ⟨_, h2⟩ | ⟨g, cap, cur, rfl, hb, hg, hc, hm, _⟩
  · omega
  · exact ⟨g, cap, rfl, hc, by unfold maxLen at hm; omega, hb, (Array.getElem?_eq_some_iff.1 hg).1⟩
end
theorem own_eq {g o n c k : Nat} (h : (Value.slice (some ⟨g, o, none⟩) n c).ownBlock = some k) : g = k := Option.some.inj h
theorem flat_take {α : Type} (f : α → List Value) (sz : Nat) (hf : ∀ x, (f x).length = sz) : ∀ (xs : List α) (k : Nat), (xs.flatMap f).take (k * sz) = (xs.take k).flatMap f
  | [], k => by simp
  | x :: xs, 0 => by simp
  | x :: xs, k + 1 => by
    rw [List.flatMap_cons, List.take_succ_cons, List.flatMap_cons, ← flat_take f sz hf xs k, List.take_append, hf]
    have e : (k + 1) * sz - sz = k * sz := by rw [Nat.add_mul]; omega
    rw [e, List.take_of_length_le (by rw [hf, Nat.add_mul]; omega)]
theorem flat_drop {α : Type} (f : α → List Value) (sz : Nat) (hf : ∀ x, (f x).length = sz) : ∀ (xs : List α) (k : Nat), (xs.flatMap f).drop (k * sz) = (xs.drop k).flatMap f
  | [], k => by simp
  | x :: xs, 0 => by simp
  | x :: xs, k + 1 => by
    rw [List.flatMap_cons, List.drop_succ_cons, ← flat_drop f sz hf xs k]
    have e : (k + 1) * sz = (f x).length + k * sz := by rw [hf, Nat.add_mul]; omega
    rw [e, List.drop_append, List.drop_of_length_le (by omega), List.nil_append]
    congr 1
    omega
end Go.Proofs.Ytkobaidamdffmaa
