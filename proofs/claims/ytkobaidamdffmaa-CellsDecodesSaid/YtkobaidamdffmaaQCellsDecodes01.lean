/- Maps keyed by structs: what the model's operations do, over a list of pairs. / Ranging over a map keyed by structs. -/
import Derived.Test.YtkobaidamdffmaaQCellsDecodes00
import Derived.MapKept
import Derived.WalkKit
import Derived.Maps.RangeWalk

namespace Go.Proofs.Ytkobaidamdffmaa
open Go.RowKit
set_option linter.unusedVariables false
set_option linter.unusedSimpArgs false

/-- values of key type kt are K a; what the model asks of them -/
structure KeyW (P : Program) (kt : TypeId) {α : Type} [DecidableEq α] (K : α → Value) : Prop where
  und : ∃ fs, P.underlying kt = some (.struct fs)
  eq : ∀ a b w, (Op.equal kt (K a) (K b)).run P w = .ok (decide (a = b)) w
  chk : ∀ e a w, (Instr.checkKey e 10000 kt (K a)).run P w = .ok () w
  bits : ∀ a, Instr.sameBits 10000 (K a) (K a) = true

section
variable {α β : Type} {K : α → Value} {V : β → Value}
/-- the entries es are the pairs L -/
def EsR (K : α → Value) (V : β → Value) (es : List MapEntry) (L : List (α × β)) : Prop := es.map (fun e => (e.key, e.val)) = L.map (fun p => (K p.1, V p.2))
theorem EsR.cons {e : MapEntry} {es : List MapEntry} {L : List (α × β)} (h : EsR K V (e :: es) L) : ∃ b u M, L = (b, u) :: M ∧ e.key = K b ∧ e.val = V u ∧ EsR K V es M := by
  cases L with
  | nil => simp [EsR] at h
  | cons p M =>
    obtain ⟨b, u⟩ := p
    unfold EsR at h
    simp only [List.map_cons, List.cons.injEq, Prod.mk.injEq] at h
    exact ⟨b, u, M, rfl, h.1.1, h.1.2, h.2⟩
theorem EsR.nil {L : List (α × β)} (h : EsR K V [] L) : L = [] := by
  cases L with
  | nil => rfl
  | cons p M => simp [EsR] at h
/-- block b is a map with the pairs L -/
def MapR (w : World) (b : Nat) (K : α → Value) (V : β → Value) (L : List (α × β)) : Prop :=
  ∃ es clock, w.heap[b]? = some (.map es clock) ∧ EsR K V es.toList L ∧ (L.map (·.1)).Nodup ∧ (∀ e ∈ es.toList, e.born < clock) ∧ (es.toList.map (·.born)).Nodup
theorem MapR.lt {w : World} {b : Nat} {L : List (α × β)} (h : MapR w b K V L) : b < w.heap.size := by
  obtain ⟨es, clock, hb, _⟩ := h
  exact (Array.getElem?_eq_some_iff.1 hb).1
theorem MapR.to {w w' : World} {b : Nat} {L : List (α × β)} (h : MapR w b K V L) (e : w'.heap[b]? = w.heap[b]?) : MapR w' b K V L := by
  obtain ⟨es, clock, hb, h2⟩ := h
  exact ⟨es, clock, e.trans hb, h2⟩
theorem MapR.below {w w' : World} {b B : Nat} {L : List (α × β)} (h : MapR w b K V L) (hb : Below B w w') (hB : b < B) : MapR w' b K V L := h.to (hb.block b hB)
theorem MapR.fr {S : Nat → Prop} {w w' : World} {b : Nat} {L : List (α × β)} (h : MapR w b K V L) (hf : Fr S w w') (hs : ¬ S b) : MapR w' b K V L := h.to (hf.block b h.lt hs)
theorem MapR.new (w : World) (K : α → Value) (V : β → Value) : MapR (w.alloc (.map #[] 0)) w.heap.size K V [] :=
  ⟨#[], 0, heap_alloc_new w _, rfl, List.nodup_nil, by simp, by simp⟩
theorem MapR.ne_blk {w : World} {b g t : Nat} {cs : Array Value} {L : List (α × β)} (h : MapR w b K V L) (k : Blk w g t cs) : b ≠ g := by
  rintro rfl
  obtain ⟨es, clock, hb, _⟩ := h
  unfold Blk at k
  rw [hb] at k
  cases k
theorem MapR.ne_own {w : World} {b base e sz n : Nat} {v : Value} {xs : List Value} {L : List (α × β)} (h : MapR w b K V L) (k : Own w base e sz v n xs) : ¬ v.ownBlock = some b := by
  intro hv
  obtain ⟨cs, hc⟩ := k.typed b hv
  exact h.ne_blk hc rfl

theorem MapR.size {w : World} {b : Nat} {L : List (α × β)} (h : MapR w b K V L) : ∃ es clock, w.heap[b]? = some (.map es clock) ∧ es.size = L.length := by
  obtain ⟨es, clock, hb, he, _⟩ := h
  refine ⟨es, clock, hb, ?_⟩
  have := congrArg List.length he
  simpa using this
end

section
variable {α β : Type} [DecidableEq α] {K : α → Value} {V : β → Value} {P : Program} {kt : TypeId}

def fk : List (α × β) → α → Nat → Option (Nat × β)
  | [], _, _ => none
  | (b, u) :: L, a, i => if a = b then some (i, u) else fk L a (i + 1)
def lk : List (α × β) → α → Option β
  | [], _ => none
  | (b, u) :: L, a => if a = b then some u else lk L a
def putM : List (α × β) → α → β → List (α × β)
  | [], a, v => [(a, v)]
  | (b, u) :: L, a, v => if a = b then (a, v) :: L else (b, u) :: putM L a v
def delM : List (α × β) → α → List (α × β)
  | [], _ => []
  | (b, u) :: L, a => if a = b then L else (b, u) :: delM L a
theorem fk_lk : ∀ (L : List (α × β)) (a : α) (i : Nat), (fk L a i).map (·.2) = lk L a
  | [], _, _ => rfl
  | (b, u) :: L, a, i => by
    unfold fk lk
    split
    · rfl
    · exact fk_lk L a (i + 1)
theorem lk_put (L : List (α × β)) (a b : α) (v : β) : lk (putM L a v) b = if b = a then some v else lk L b := by
  induction L with
  | nil => simp [putM, lk]
  | cons p L ih =>
    obtain ⟨c, u⟩ := p
    unfold putM
    split
    · rename_i h
      subst h
      simp only [lk]
      split <;> rfl
    · rename_i h
      simp only [lk, ih]
      split
      · rename_i h2
        subst h2
        rw [if_neg (fun e => h e.symm)]
      · rfl
theorem mem_keys_put (L : List (α × β)) (a b : α) (v : β) : b ∈ (putM L a v).map (·.1) ↔ b = a ∨ b ∈ L.map (·.1) := by
  induction L with
  | nil => simp [putM]
  | cons p L ih =>
    obtain ⟨c, u⟩ := p
    unfold putM
    split
    · rename_i h
      subst h
      simp
    · simp only [List.map_cons, List.mem_cons, ih]
      constructor
      · rintro (h | h | h)
        · exact .inr (.inl h)
        · exact .inl h
        · exact .inr (.inr h)
      · rintro (h | h | h)
        · exact .inr (.inl h)
        · exact .inl h
        · exact .inr (.inr h)
theorem nodup_put {L : List (α × β)} (h : (L.map (·.1)).Nodup) (a : α) (v : β) : ((putM L a v).map (·.1)).Nodup := by
  induction L with
  | nil => simp [putM]
  | cons p L ih =>
    obtain ⟨c, u⟩ := p
    rw [List.map_cons, List.nodup_cons] at h
    unfold putM
    split
    · rename_i h2
      subst h2
      rw [List.map_cons, List.nodup_cons]
      exact h
    · rename_i h2
      rw [List.map_cons, List.nodup_cons]
      refine ⟨fun h3 => ?_, ih h.2⟩
      rcases (mem_keys_put L a c v).1 h3 with h4 | h4
      · exact h2 h4.symm
      · exact h.1 h4
theorem lk_none {L : List (α × β)} {a : α} (h : a ∉ L.map (·.1)) : lk L a = none := by
  induction L with
  | nil => rfl
  | cons p L ih =>
    obtain ⟨c, u⟩ := p
    rw [List.map_cons, List.mem_cons, not_or] at h
    rw [lk, if_neg h.1, ih h.2]
theorem mem_keys_del (L : List (α × β)) (a b : α) (h : b ∈ (delM L a).map (·.1)) : b ∈ L.map (·.1) := by
  induction L with
  | nil => simp [delM] at h
  | cons p L ih =>
    obtain ⟨c, u⟩ := p
    unfold delM at h
    split at h
    · exact List.mem_cons_of_mem _ h
    · rw [List.map_cons, List.mem_cons] at h ⊢
      rcases h with h | h
      · exact .inl h
      · exact .inr (ih h)
theorem nodup_del {L : List (α × β)} (h : (L.map (·.1)).Nodup) (a : α) : ((delM L a).map (·.1)).Nodup := by
  induction L with
  | nil => simp [delM]
  | cons p L ih =>
    obtain ⟨c, u⟩ := p
    rw [List.map_cons, List.nodup_cons] at h
    unfold delM
    split
    · exact h.2
    · rw [List.map_cons, List.nodup_cons]
      exact ⟨fun h3 => h.1 (mem_keys_del L a c h3), ih h.2⟩
theorem lk_del {L : List (α × β)} (h : (L.map (·.1)).Nodup) (a b : α) : lk (delM L a) b = if b = a then none else lk L b := by
  induction L with
  | nil => simp [delM, lk]
  | cons p L ih =>
    obtain ⟨c, u⟩ := p
    rw [List.map_cons, List.nodup_cons] at h
    unfold delM
    split
    · rename_i h2
      subst h2
      split
      · rename_i h3
        subst h3
        exact lk_none h.1
      · rename_i h3
        rw [lk, if_neg h3]
    · rename_i h2
      simp only [lk, ih h.2]
      split
      · rename_i h3
        subst h3
        rw [if_neg (fun e => h2 e.symm)]
      · rfl

theorem run_asking (W : KeyW P kt K) : ∀ (es : List MapEntry) (L : List (α × β)) (a : α) (i : Nat) (w : World), EsR K V es L →
    (Instr.findAsking kt (K a) es i).run P w = .ok ((fk L a i).map fun p => (p.1, V p.2)) w := by
  intro es
  induction es with
  | nil =>
    intro L a i w h
    rw [h.nil]
    rfl
  | cons e es ih =>
    intro L a i w h
    obtain ⟨b, u, M, rfl, h1, h2, h3⟩ := h.cons
    unfold Instr.findAsking
    rw [Sem.run_bind, h1, W.eq a b w]
    simp only [Result.andThen]
    unfold fk
    by_cases hab : a = b
    · rw [decide_eq_true hab, if_pos rfl, if_pos hab, h2]
      rfl
    · rw [decide_eq_false hab, if_neg (by simp), if_neg hab]
      exact ih M a (i + 1) w h3
theorem run_find (W : KeyW P kt K) (es : List MapEntry) (L : List (α × β)) (a : α) (w : World) (h : EsR K V es L) :
    (Instr.findKey kt (K a) es).run P w = .ok ((fk L a 0).map fun p => (p.1, V p.2)) w := by
  obtain ⟨fs, hu⟩ := W.und
  unfold Instr.findKey
  rw [Sem.run_bind, run_underlying hu]
  simp only [Result.andThen]
  cases es with
  | nil =>
    rw [h.nil]
    rfl
  | cons e es =>
    have hn : Instr.findNow (.struct fs) (K a) (e :: es) 0 = none := by
      unfold Instr.findNow
      have : Instr.sameNow (.struct fs) (K a) e.key = none := by
        unfold Instr.sameNow
        split <;> first | rfl | simp_all
      rw [this]
    rw [hn]
    exact run_asking W (e :: es) L a 0 w h

theorem MapR.look (W : KeyW P kt K) {w : World} {b : Nat} {L : List (α × β)} (h : MapR w b K V L) {mt et : TypeId} (ht : P.underlying mt = some (.map kt et)) {z : Value} (hz : ∀ w, (zeroValue et).run P w = .ok z w) (a : α) (ok : Bool) :
    (Instr.lookup mt (.map (some b)) (K a) ok).run P w = .ok (if ok then .tuple #[((lk L a).map V).getD z, .bool (lk L a).isSome] else ((lk L a).map V).getD z) w := by
  obtain ⟨es, clock, hb, he, _⟩ := h
  unfold Instr.lookup
  rw [Sem.run_bind, run_underlying ht]
  simp only [Result.andThen]
  rw [Sem.run_bind, MapKept.run_getObj_map hb]
  simp only [Result.andThen]
  rw [Sem.run_bind, Sem.run_pure]
  simp only [Result.andThen]
  rw [Sem.run_bind, W.chk]
  simp only [Result.andThen]
  rw [Sem.run_bind, run_find W es.toList L a w he]
  simp only [Result.andThen]
  rw [← fk_lk L a 0]
  cases hf : fk L a 0 with
  | none =>
    simp only [Option.map_none, Sem.run_bind, hz, Result.andThen, Sem.run_pure]
    cases ok <;> rfl
  | some p =>
    simp only [Option.map_some, Sem.run_pure, Sem.run_bind, Result.andThen]
    cases ok <;> rfl

theorem modify_born (f : MapEntry → MapEntry) (hf : ∀ e, (f e).born = e.born) : ∀ (es : List MapEntry) (i : Nat), (es.modify i f).map (·.born) = es.map (·.born)
  | [], i => by cases i <;> rfl
  | e :: es, 0 => by simp [hf]
  | e :: es, i + 1 => by simp [modify_born f hf es i]
theorem es_modify : ∀ (es : List MapEntry) (L : List (α × β)) (a : α) (v : β) (k j : Nat) (u : β), EsR K V es L → fk L a k = some (j, u) →
    ∃ i, j = k + i ∧ EsR K V (es.modify i fun e => { e with key := K a, val := V v }) (putM L a v) ∧ (es[i]?).map (·.key) = some (K a) := by
  intro es
  induction es with
  | nil => intro L a v k j u h hf; rw [h.nil] at hf; cases hf
  | cons e es ih =>
    intro L a v k j u h hf
    obtain ⟨b, x, M, rfl, h1, h2, h3⟩ := h.cons
    unfold fk at hf
    by_cases hab : a = b
    · rw [if_pos hab] at hf
      injection hf with hf
      injection hf with h4 h5
      subst hab
      refine ⟨0, by omega, ?_, by simp [h1]⟩
      unfold EsR at h3 ⊢
      rw [putM, if_pos rfl]
      simp [h3]
    · rw [if_neg hab] at hf
      obtain ⟨i, h4, h5, h6⟩ := ih M a v (k + 1) j u h3 hf
      refine ⟨i + 1, by omega, ?_, by simpa using h6⟩
      unfold EsR at h5 ⊢
      rw [putM, if_neg hab]
      simp [h1, h2, h5]
theorem es_push : ∀ (es : List MapEntry) (L : List (α × β)) (a : α) (v : β) (k c : Nat), EsR K V es L → fk L a k = none → EsR K V (es ++ [{ key := K a, val := V v, born := c }]) (putM L a v) := by
  intro es
  induction es with
  | nil => intro L a v k c h hf; rw [h.nil]; rfl
  | cons e es ih =>
    intro L a v k c h hf
    obtain ⟨b, x, M, rfl, h1, h2, h3⟩ := h.cons
    unfold fk at hf
    by_cases hab : a = b
    · rw [if_pos hab] at hf; cases hf
    · rw [if_neg hab] at hf
      have h5 := ih M a v (k + 1) c h3 hf
      unfold EsR at h5 ⊢
      rw [putM, if_neg hab]
      simp only [List.cons_append, List.map_cons, h1, h2, h5]
theorem es_erase : ∀ (es : List MapEntry) (L : List (α × β)) (a : α) (k j : Nat) (u : β), EsR K V es L → fk L a k = some (j, u) → ∃ i, j = k + i ∧ i < es.length ∧ EsR K V (es.eraseIdx i) (delM L a) := by
  intro es
  induction es with
  | nil => intro L a k j u h hf; rw [h.nil] at hf; cases hf
  | cons e es ih =>
    intro L a k j u h hf
    obtain ⟨b, x, M, rfl, h1, h2, h3⟩ := h.cons
    unfold fk at hf
    by_cases hab : a = b
    · rw [if_pos hab] at hf
      injection hf with hf
      injection hf with h4 h5
      refine ⟨0, by omega, by simp, ?_⟩
      rw [delM, if_pos hab]
      exact h3
    · rw [if_neg hab] at hf
      obtain ⟨i, h4, h5, h6⟩ := ih M a (k + 1) j u h3 hf
      refine ⟨i + 1, by omega, by simpa using h5, ?_⟩
      unfold EsR at h6 ⊢
      rw [delM, if_neg hab]
      simp [h1, h2, h6]
theorem del_none : ∀ (L : List (α × β)) (a : α) (k : Nat), fk L a k = none → delM L a = L
  | [], _, _, _ => rfl
  | (b, u) :: L, a, k, h => by
    unfold fk at h
    unfold delM
    by_cases hab : a = b
    · rw [if_pos hab] at h; cases h
    · rw [if_neg hab] at h
      rw [if_neg hab, del_none L a (k + 1) h]

theorem fr_set {w : World} {b : Nat} {o : Obj} : Fr (fun k => k = b) w { w with heap := w.heap.setIfInBounds b o } :=
  ⟨rfl, rfl, rfl, by simp, fun k hk hn => by simp [Ne.symm hn]⟩
theorem MapR.upd (W : KeyW P kt K) {w : World} {b : Nat} {L : List (α × β)} (h : MapR w b K V L) {mt et : TypeId} (ht : P.underlying mt = some (.map kt et)) (a : α) (v : β) :
    ∃ w', (Instr.mapUpdate mt (.map (some b)) (K a) (V v)).run P w = .ok () w' ∧ MapR w' b K V (putM L a v) ∧ Fr (fun k => k = b) w w' ∧ w'.heap.size = w.heap.size := by
  obtain ⟨es, clock, hb, he, hnd, hlt, hbn⟩ := h
  have hlt2 : b < w.heap.size := (Array.getElem?_eq_some_iff.1 hb).1
  have key : (Instr.mapUpdate mt (.map (some b)) (K a) (V v)).run P w = (((Instr.findKey kt (K a) es.toList).run P w).andThen fun r w' => (match r with
    | some (i, _) => (do
      let key ← Instr.keyThatStays (((es[i]?).map (fun e : MapEntry => e.key)).getD (K a)) (K a)
      setObj b (.map (es.modify i fun e => { e with key, val := V v }) clock) : Sem Unit)
    | none => setObj b (.map (es.push { key := K a, val := V v, born := clock }) (clock + 1))).run P w') := by
    unfold Instr.mapUpdate
    rw [Sem.run_bind, run_underlying ht]
    simp only [Result.andThen]
    rw [Sem.run_bind, MapKept.run_getObj_map hb]
    simp only [Result.andThen]
    rw [Sem.run_bind, W.chk]
    simp only [Result.andThen]
    rw [Sem.run_bind]
    rfl
  rw [key, run_find W es.toList L a w he]
  simp only [Result.andThen]
  cases hf : fk L a 0 with
  | none =>
    simp only [Option.map_none]
    rw [MapKept.run_setObj_map _ hb]
    refine ⟨_, rfl, ⟨_, _, (MapKept.heap_set hb).1, ?_, nodup_put hnd a v, ?_, ?_⟩, fr_set, by simp⟩
    · rw [Array.toList_push]
      exact es_push es.toList L a v 0 clock he hf
    · intro e hm
      rw [Array.toList_push] at hm
      rcases List.mem_append.1 hm with h1 | h1
      · have := hlt e h1; omega
      · rw [List.mem_singleton.1 h1]; simp
    · rw [Array.toList_push, List.map_append, List.nodup_append]
      refine ⟨hbn, by simp, ?_⟩
      intro x hx y hy e
      simp only [List.map_cons, List.map_nil, List.mem_singleton] at hy
      obtain ⟨z, hz, rfl⟩ := List.mem_map.1 hx
      have := hlt z hz
      omega
  | some p =>
    obtain ⟨j, u⟩ := p
    obtain ⟨i, h1, h2, h3⟩ := es_modify es.toList L a v 0 j u he hf
    have hij : j = i := by omega
    subst hij
    simp only [Option.map_some]
    have h4 : ((es[j]?).map (·.key)).getD (K a) = K a := by
      rw [Array.getElem?_toList] at h3
      rw [h3]
      rfl
    rw [h4, Sem.run_bind]
    have h5 : (Instr.keyThatStays (K a) (K a)).run P w = .ok (K a) w := by
      unfold Instr.keyThatStays
      rw [if_pos (W.bits a)]
      rfl
    rw [h5]
    simp only [Result.andThen]
    rw [MapKept.run_setObj_map _ hb]
    refine ⟨_, rfl, ⟨_, _, (MapKept.heap_set hb).1, ?_, nodup_put hnd a v, ?_, ?_⟩, fr_set, by simp⟩
    · rw [Array.toList_modify]
      exact h2
    · intro e hm
      rw [Array.toList_modify] at hm
      have h6 := modify_born (fun e => { e with key := K a, val := V v }) (fun _ => rfl) es.toList j
      have h7 : e.born ∈ (es.toList.modify j fun e => { e with key := K a, val := V v }).map (·.born) := List.mem_map_of_mem hm
      rw [h6] at h7
      obtain ⟨z, hz, h8⟩ := List.mem_map.1 h7
      rw [← h8]
      exact hlt z hz
    · rw [Array.toList_modify, modify_born (fun e => { e with key := K a, val := V v }) (fun _ => rfl)]
      exact hbn
theorem MapR.del (W : KeyW P kt K) {w : World} {b : Nat} {L : List (α × β)} (h : MapR w b K V L) {mt et ty : TypeId} (ht : P.underlying mt = some (.map kt et)) (a : α) :
    ∃ w', (Builtin.delete_ #[mt, kt] ty #[.map (some b), K a]).run P w = .ok (.tuple #[]) w' ∧ MapR w' b K V (delM L a) ∧ Fr (fun k => k = b) w w' ∧ w'.heap.size = w.heap.size := by
  obtain ⟨es, clock, hb, he, hnd, hlt, hbn⟩ := h
  unfold Builtin.delete_
  simp only [List.getElem?_toArray, List.getElem?_cons_zero, List.getElem?_cons_succ]
  rw [Sem.run_bind, run_underlying ht]
  simp only [Result.andThen]
  rw [Sem.run_bind, MapKept.run_getObj_map hb]
  simp only [Result.andThen]
  rw [Sem.run_bind, W.chk]
  simp only [Result.andThen]
  rw [Sem.run_bind, run_find W es.toList L a w he]
  simp only [Result.andThen]
  cases hf : fk L a 0 with
  | none =>
    simp only [Option.map_none]
    rw [Sem.run_bind, MapKept.run_setObj_map _ hb]
    refine ⟨_, rfl, ⟨_, _, (MapKept.heap_set hb).1, ?_, nodup_del hnd a, hlt, hbn⟩, fr_set, by simp⟩
    rw [del_none L a 0 hf]
    exact he
  | some p =>
    obtain ⟨j, u⟩ := p
    obtain ⟨i, h1, h2, h3⟩ := es_erase es.toList L a 0 j u he hf
    have hij : j = i := by omega
    subst hij
    simp only [Option.map_some]
    rw [Sem.run_bind, MapKept.run_setObj_map _ hb]
    have hes : (es.eraseIdxIfInBounds j).toList = es.toList.eraseIdx j := by
      unfold Array.eraseIdxIfInBounds
      rw [dif_pos (by simpa using h2), Array.toList_eraseIdx]
    refine ⟨_, rfl, ⟨_, _, (MapKept.heap_set hb).1, ?_, nodup_del hnd a, ?_, ?_⟩, fr_set, by simp⟩
    · rw [hes]
      exact h3
    · intro e hm
      rw [hes] at hm
      exact hlt e (List.mem_of_mem_eraseIdx hm)
    · rw [hes]
      exact hbn.sublist ((List.eraseIdx_sublist _ _).map _)
end

end Go.Proofs.Ytkobaidamdffmaa

namespace Go.Proofs.Ytkobaidamdffmaa
open Go.RowKit
open Go.ChangeMaps (setBlock)
set_option linter.unusedVariables false
set_option linter.unusedSimpArgs false

theorem range_self {α : Type} (L : List α) : (List.range L.length).filterMap (fun i => L[i]?) = L := by
  have key : ∀ n, n ≤ L.length → (List.range n).filterMap (fun i => L[i]?) = L.take n := by
    intro n
    induction n with
    | zero => intro _; simp
    | succ n ih =>
      intro h
      rw [List.range_succ, List.filterMap_append, ih (by omega), List.take_succ_eq_append_getElem (by omega)]
      simp [List.getElem?_eq_getElem (show n < L.length by omega)]
  rw [key _ (Nat.le_refl _), List.take_length]

section
variable {α β : Type} {K : α → Value} {V : β → Value}
/-- block r is an iterator over the map b with the pairs L; those of D have come -/
def ItR (w : World) (b r : Nat) (K : α → Value) (V : β → Value) (L D : List (α × β)) : Prop :=
  ∃ es clock since seen c0, ∃ I : List Nat, w.heap[b]? = some (.map es clock) ∧ EsR K V es.toList L ∧ (es.toList.map (·.born)).Nodup ∧
    w.heap[r]? = some (.mapIter (some b) since seen c0) ∧ (∀ e ∈ es.toList, e.born < since) ∧ since ≤ c0 ∧ since ≤ clock ∧ I.Nodup ∧ (∀ i ∈ I, i < es.size) ∧ seen.toList = I.map (fun i => (es.toList.map (·.born)).getD i 0) ∧ D = I.filterMap (fun i => L[i]?)
/-- how many are still to come -/
def itLeft (w : World) (b r : Nat) : Nat :=
  match w.heap[b]?, w.heap[r]? with
  | some (.map es _), some (.mapIter _ _ seen _) => es.size - seen.size
  | _, _ => 0
theorem EsR.len {es : List MapEntry} {L : List (α × β)} (h : EsR K V es L) : es.length = L.length := by
  have := congrArg List.length h
  simpa using this
theorem EsR.at_ {es : List MapEntry} {L : List (α × β)} (h : EsR K V es L) {i : Nat} {e : MapEntry} (he : es[i]? = some e) : ∃ p, L[i]? = some p ∧ e.key = K p.1 ∧ e.val = V p.2 := by
  have h1 : (es.map (fun e => (e.key, e.val)))[i]? = (L.map (fun p => (K p.1, V p.2)))[i]? := by rw [h]
  rw [List.getElem?_map, List.getElem?_map, he] at h1
  cases hl : L[i]? with
  | none => rw [hl] at h1; cases h1
  | some p =>
    rw [hl] at h1
    injection h1 with h1
    injection h1 with h2 h3
    exact ⟨p, rfl, h2, h3⟩
theorem filterMap_some {γ δ : Type} (f : γ → Option δ) : ∀ I : List γ, (∀ i ∈ I, (f i).isSome) → (I.filterMap f).length = I.length
  | [], _ => rfl
  | i :: I, h => by
    obtain ⟨x, hx⟩ := Option.isSome_iff_exists.1 (h i List.mem_cons_self)
    rw [List.filterMap_cons_some hx, List.length_cons, List.length_cons, filterMap_some f I (fun j hj => h j (List.mem_cons_of_mem _ hj))]
variable {w w' : World} {b r : Nat} {L D : List (α × β)}
theorem ItR.left_eq (h : ItR w b r K V L D) : itLeft w b r = L.length - D.length := by
  obtain ⟨es, clock, since, seen, c0, I, hb, he, _, hr, _, _, _, _, hI, hs, rfl⟩ := h
  have h1 := he.len
  rw [Array.length_toList] at h1
  unfold itLeft
  rw [hb, hr]
  show es.size - seen.size = _
  have h2 := congrArg List.length hs
  rw [Array.length_toList, List.length_map] at h2
  rw [filterMap_some _ I (fun i hi => by
    have := hI i hi
    rw [List.getElem?_eq_getElem (by omega)]
    rfl)]
  omega
theorem ItR.to (h : ItR w b r K V L D) (e1 : w'.heap[b]? = w.heap[b]?) (e2 : w'.heap[r]? = w.heap[r]?) : ItR w' b r K V L D := by
  obtain ⟨es, clock, since, seen, c0, I, hb, h1, h2, hr, h3⟩ := h
  exact ⟨es, clock, since, seen, c0, I, e1.trans hb, h1, h2, e2.trans hr, h3⟩
theorem ItR.lt (h : ItR w b r K V L D) : b < w.heap.size ∧ r < w.heap.size := by
  obtain ⟨es, clock, since, seen, c0, I, hb, h1, h2, hr, h3⟩ := h
  exact ⟨(Array.getElem?_eq_some_iff.1 hb).1, (Array.getElem?_eq_some_iff.1 hr).1⟩
theorem ItR.fr {S : Nat → Prop} (h : ItR w b r K V L D) (hf : Fr S w w') (h1 : ¬ S b) (h2 : ¬ S r) : ItR w' b r K V L D := h.to (hf.block b h.lt.1 h1) (hf.block r h.lt.2 h2)
theorem ItR.below {B : Nat} (h : ItR w b r K V L D) (hf : Below B w w') (h1 : b < B) (h2 : r < B) : ItR w' b r K V L D := h.to (hf.block b h1) (hf.block r h2)
theorem ItR.sub (h : ItR w b r K V L D) : ∀ p ∈ D, p ∈ L := by
  obtain ⟨es, clock, since, seen, c0, I, hb, h1, h2, hr, h3, h4, h5, h6, h7, h8, rfl⟩ := h
  intro p hp
  obtain ⟨i, _, hi⟩ := List.mem_filterMap.1 hp
  exact List.mem_of_getElem? hi
theorem ItR.map [DecidableEq α] (h : ItR w b r K V L D) (hn : (L.map (·.1)).Nodup) (hc : ∀ es clock, w.heap[b]? = some (.map es clock) → ∀ e ∈ es.toList, e.born < clock) : MapR w b K V L := by
  obtain ⟨es, clock, since, seen, c0, I, hb, h1, h2, hr, h3, h4, h5, h6⟩ := h
  exact ⟨es, clock, hb, h1, hn, hc es clock hb, h2⟩
theorem ItR.ne (h : ItR w b r K V L D) : r ≠ b := by
  obtain ⟨es, clock, since, seen, c0, I, hb, h1, h2, hr, h3⟩ := h
  intro e
  rw [e, hb] at hr
  cases hr
theorem ItR.ne_blk {g t : Nat} {cs : Array Value} (h : ItR w b r K V L D) (k : Blk w g t cs) : b ≠ g ∧ r ≠ g := by
  obtain ⟨es, clock, since, seen, c0, I, hb, h1, h2, hr, h3⟩ := h
  unfold Blk at k
  exact ⟨fun e => (by rw [e, k] at hb; cases hb), fun e => (by rw [e, k] at hr; cases hr)⟩
theorem ItR.ne_map {c : Nat} {γ δ : Type} {K' : γ → Value} {V' : δ → Value} {M : List (γ × δ)} (h : ItR w b r K V L D) (k : MapR w c K' V' M) : r ≠ c := by
  obtain ⟨es, clock, since, seen, c0, I, hb, h1, h2, hr, h3⟩ := h
  obtain ⟨es', clock', hc, _⟩ := k
  intro e
  rw [e, hc] at hr
  cases hr

variable {P : Program} {t k e : TypeId}
theorem MapR.range (h : MapR w b K V L) (ht : P.underlying t = some (.map k e)) :
    ∃ o, (Instr.range t (.map (some b))).run P w = .ok (.pointer (some ⟨w.heap.size, 0, none⟩)) (w.alloc o) ∧ ItR (w.alloc o) b w.heap.size K V L [] := by
  have hlt := h.lt
  obtain ⟨es, clock, hb, he, hn, hlt2, hbn⟩ := h
  exact ⟨_, run_range_map w t k e b es clock ht hb, es, clock, clock, #[], clock, [], (Below.heap_alloc _ _ _ hlt).trans hb, he, hbn, heap_alloc_new w _, hlt2, Nat.le_refl _, Nat.le_refl _, List.nodup_nil, (fun i hi => by cases hi), rfl, rfl⟩
theorem ItR.next (h : ItR w b r K V L D) (ty : TypeId) :
    (L.Perm D ∧ (Instr.next (.pointer (some ⟨r, 0, none⟩)) false ty).run P w = .ok (.tuple #[.bool false]) w) ∨
    ∃ p w', p ∈ L ∧ (Instr.next (.pointer (some ⟨r, 0, none⟩)) false ty).run P w = .ok (.tuple #[.bool true, K p.1, V p.2]) w' ∧ ItR w' b r K V L (D ++ [p]) ∧ D.length < L.length ∧ Fr (fun j => j = r) w w' ∧ w'.heap.size = w.heap.size ∧
      (Instr.entry (.pointer (some ⟨r, 0, none⟩))).run P w' = .ok (.tuple #[K p.1, V p.2]) w' := by
  have hne := h.ne
  obtain ⟨es, clock, since, seen, c0, I, hb, he, hbn, hr, hold, hsc, hsk, hI, hIs, hs, rfl⟩ := h
  have hln := he.len
  rw [Array.length_toList] at hln
  have hbo : ∀ i, i < es.size → ∃ en, es.toList[i]? = some en ∧ (es.toList.map (·.born)).getD i 0 = en.born := by
    intro i hi
    refine ⟨es[i], by simp [hi], ?_⟩
    simp [List.getD_eq_getElem?_getD, hi]
  have hseen : ∀ i, i < es.size → (seen.contains ((es.toList.map (·.born)).getD i 0) = true ↔ i ∈ I) := by
    intro i hi
    rw [← Array.contains_toList, List.contains_iff_mem, hs, List.mem_map]
    constructor
    · rintro ⟨j, hj, e9⟩
      have hj2 := hIs j hj
      have e8 : (es.toList.map (·.born))[j]'(by simpa using hj2) = (es.toList.map (·.born))[i]'(by simpa using hi) := by
        rw [List.getD_eq_getElem?_getD, List.getD_eq_getElem?_getD, List.getElem?_eq_getElem (by simpa using hj2), List.getElem?_eq_getElem (by simpa using hi)] at e9
        exact e9
      have := (List.getElem_inj hbn).1 e8
      rw [← this]
      exact hj
    · exact fun h9 => ⟨i, h9, rfl⟩
  have hDl : (I.filterMap fun i => L[i]?).length = I.length := filterMap_some _ I (fun i hi => by
    have := hIs i hi
    rw [List.getElem?_eq_getElem (by omega)]
    rfl)
  rcases run_next_at (P := P) w ty r b since c0 seen es clock hr hb hold hsc with ⟨h0, hrun⟩ | ⟨en, hen, w1, hal, hrun⟩
  · refine .inl ⟨?_, hrun⟩
    have hall : ∀ i, i ∈ I ↔ i ∈ List.range es.size := by
      intro i
      rw [List.mem_range]
      constructor
      · exact hIs i
      · intro hi
        obtain ⟨x, hx, hxb⟩ := hbo i hi
        have h9 := all_seen es seen h0 x (List.mem_of_getElem? hx)
        rw [← hxb] at h9
        exact (hseen i hi).1 h9
    have hp : I.Perm (List.range es.size) := (List.perm_ext_iff_of_nodup hI List.nodup_range).2 hall
    have h8 := hp.filterMap (fun i => L[i]?)
    rw [hln, range_self] at h8
    exact h8.symm
  · obtain ⟨hem, hes⟩ := mem_left hen
    obtain ⟨i, hi⟩ := List.getElem?_of_mem hem
    have hil : i < es.size := by
      have := (List.getElem?_eq_some_iff.1 hi).1
      simpa using this
    obtain ⟨p, hp, hk, hv⟩ := he.at_ hi
    obtain ⟨x, hx, hxb⟩ := hbo i hil
    rw [hi] at hx
    injection hx with hx
    subst hx
    have hiI : i ∉ I := fun h9 => by
      have h8 := (hseen i hil).2 h9
      rw [hxb, hes] at h8
      cases h8
    have hr1 : w1.heap[r]? = some (.mapIter (some b) since seen c0) := by rcases hal with rfl | rfl <;> exact hr
    have hb1 : w1.heap[b]? = some (.map es clock) := by rcases hal with rfl | rfl <;> exact hb
    have hset := MapKept.heap_set (o' := .mapIter (some b) since (seen.push en.born) clock) hr1
    have hb' : (setBlock w1 r (.mapIter (some b) since (seen.push en.born) clock)).heap[b]? = some (.map es clock) := (hset.2 b (fun e1 => hne e1.symm)).trans hb1
    refine .inr ⟨p, _, List.mem_of_getElem? hp, by rw [← hk, ← hv]; exact hrun, ?_, ?_, ?_, ?_, ?_⟩
    · refine ⟨es, clock, since, seen.push en.born, clock, I ++ [i], hb', he, hbn, hset.1, hold, hsk, hsk, ?_, ?_, ?_, ?_⟩
      · rw [List.nodup_append]
        refine ⟨hI, by simp, ?_⟩
        rintro a ha c hc rfl
        exact hiI (by rw [List.mem_singleton] at hc; rw [← hc]; exact ha)
      · intro j hj
        rcases List.mem_append.1 hj with h9 | h9
        · exact hIs j h9
        · rw [List.mem_singleton.1 h9]; exact hil
      · rw [Array.toList_push, hs, List.map_append, List.map_singleton, hxb]
      · rw [List.filterMap_append]
        simp [hp]
    · rw [hDl]
      have h9 : I.length < (List.range es.size).length := by
        have hsub : (i :: I).Nodup := List.nodup_cons.2 ⟨hiI, hI⟩
        have h8 := hsub.length_le_of_subset (l₂ := List.range es.size) (fun j hj => by
          rw [List.mem_range]
          rcases List.mem_cons.1 hj with rfl | h7
          · exact hil
          · exact hIs j h7)
        rw [List.length_cons] at h8
        omega
      rw [List.length_range] at h9
      omega
    · rcases hal with rfl | rfl <;> exact ⟨rfl, rfl, rfl, by simp [setBlock], fun j _ hj => hset.2 j (fun e1 => hj e1)⟩
    · rcases hal with rfl | rfl <;> simp [setBlock]
    · rw [← hk, ← hv]
      exact run_entry_at _ r b since seen es clock en hset.1 hb' hem hbn

variable {ops : Array Oper} {rest : List Oper} {o : Oper} {a : Act} {Q : Exit → Act → World → Prop}
/-- the walk's laws -/
theorem wpList_range_it (hg : o.guard = none) (m : Operand) (hop : o.op = Op.range t m) (ht : P.underlying t = some (.map k e)) (hm : a.eval m = .map (some b)) (h : MapR w b K V L)
    (hK : ∀ ob, ItR (w.alloc ob) b w.heap.size K V L [] → wpList P ops Q rest (a.put o.dst (.pointer (some ⟨w.heap.size, 0, none⟩))) (w.alloc ob)) : wpList P ops Q (o :: rest) a w := by
  refine wpList_plain hg fun K' hK' => ?_
  obtain ⟨ob, hrun, hi⟩ := h.range ht
  unfold Oper.wp
  simp [execOp, hop, hm, hrun, Result.andThen]
  exact hK' _ _ (hK ob hi)
theorem wpList_next_it (hg : o.guard = none) (it : Operand) (hop : o.op = Op.next it false) (hit : a.eval it = .pointer (some ⟨r, 0, none⟩)) (h : ItR w b r K V L D)
    (hDone : L.Perm D → wpList P ops Q rest (a.put o.dst (.tuple #[.bool false])) w)
    (hMore : ∀ p w', p ∈ L → ItR w' b r K V L (D ++ [p]) → D.length < L.length → Fr (fun j => j = r) w w' → w'.heap.size = w.heap.size → (Instr.entry (.pointer (some ⟨r, 0, none⟩))).run P w' = .ok (.tuple #[K p.1, V p.2]) w' →
      wpList P ops Q rest (a.put o.dst (.tuple #[.bool true, K p.1, V p.2])) w') : wpList P ops Q (o :: rest) a w := by
  refine wpList_plain hg fun K' hK' => ?_
  unfold Oper.wp
  rcases h.next (P := P) o.type with ⟨h0, hrun⟩ | ⟨p, w', hp, hrun, hi, hlt, hf, hsz, hen⟩
  · simp [execOp, hop, hit, hrun, Result.andThen]
    exact hK' _ _ (hDone h0)
  · simp [execOp, hop, hit, hrun, Result.andThen]
    exact hK' _ _ (hMore p w' hp hi hlt hf hsz hen)
/-- an entry has come -/
def ItStep (P : Program) (w : World) (b r : Nat) (K : α → Value) (V : β → Value) (L D : List (α × β)) (w' : World) (kv vv : Value) : Prop :=
  ∃ p, kv = K p.1 ∧ vv = V p.2 ∧ p ∈ L ∧ ItR w' b r K V L (D ++ [p]) ∧ D.length < L.length ∧ Fr (fun j => j = r) w w' ∧ w'.heap.size = w.heap.size ∧ (Instr.entry (.pointer (some ⟨r, 0, none⟩))).run P w' = .ok (.tuple #[kv, vv]) w'
/-- the same, key and value under names -/
theorem wpList_next_it' (hg : o.guard = none) (it : Operand) (hop : o.op = Op.next it false) (hit : a.eval it = .pointer (some ⟨r, 0, none⟩)) (h : ItR w b r K V L D)
    (hDone : L.Perm D → wpList P ops Q rest (a.put o.dst (.tuple #[.bool false])) w)
    (hMore : ∀ w' kv vv, ItStep P w b r K V L D w' kv vv → wpList P ops Q rest (a.put o.dst (.tuple #[.bool true, kv, vv])) w') : wpList P ops Q (o :: rest) a w :=
  wpList_next_it hg it hop hit h hDone (fun p w' h1 h2 h3 h4 h5 h6 => hMore w' _ _ ⟨p, rfl, rfl, h1, h2, h3, h4, h5, h6⟩)
end

end Go.Proofs.Ytkobaidamdffmaa
