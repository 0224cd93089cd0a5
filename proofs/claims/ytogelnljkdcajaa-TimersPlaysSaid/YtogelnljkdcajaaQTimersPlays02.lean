/- Maps keyed by structs: what the model's operations do, over a list of pairs. / bytes.Compare. / Timers' names as keys of a map. / Timers: as cells, their order; nameOf; copied. -/
import Derived.Test.YtogelnljkdcajaaQTimersPlays00
import Derived.MapKept
import Derived.WalkKit
import Derived.Test.YtogelnljkdcajaaQTimersPlays01
import Derived.Lib.BytesEntry
import Derived.Laws.Externs
import Derived.WalkSpells
import Derived.WalkLawsBesides
import Derived.Deep.CutRange

namespace Go.Proofs.Ytogelnljkdcajaa
open Go.RowKit
set_option linter.unusedVariables false
set_option linter.unusedSimpArgs false

/-- values of key type kt are K a; what the model asks of them -/
structure KeyW (P : Program) (kt : TypeId) {α : Type} [DecidableEq α] (K : α → Value) : Prop where
  und : ∃ fs, P.underlying kt = some (.struct fs)
  eq : ∀ a b w, (Op.equal kt (K a) (K b)).run P w = .ok (decide (a = b)) w
  chk : ∀ e a w, (Instr.checkKey e 10000 kt (K a)).run P w = .ok () w
  bits : ∀ a, Instr.sameBits 10000 (K a) (K a) = true

section
variable {α β : Type} {K : α → Value} {V : β → Value}
/-- the entries es are the pairs L -/
def EsR (K : α → Value) (V : β → Value) (es : List MapEntry) (L : List (α × β)) : Prop := es.map (fun e => (e.key, e.val)) = L.map (fun p => (K p.1, V p.2))
theorem EsR.cons {e : MapEntry} {es : List MapEntry} {L : List (α × β)} (h : EsR K V (e :: es) L) : ∃ b u M, L = (b, u) :: M ∧ e.key = K b ∧ e.val = V u ∧ EsR K V es M := by
  cases L with
  | nil => simp [EsR] at h
  | cons p M =>
    obtain ⟨b, u⟩ := p
    unfold EsR at h
    simp only [List.map_cons, List.cons.injEq, Prod.mk.injEq] at h
    exact ⟨b, u, M, rfl, h.1.1, h.1.2, h.2⟩
theorem EsR.nil {L : List (α × β)} (h : EsR K V [] L) : L = [] := by
  cases L with
  | nil => rfl
  | cons p M => simp [EsR] at h
/-- block b is a map with the pairs L -/
def MapR (w : World) (b : Nat) (K : α → Value) (V : β → Value) (L : List (α × β)) : Prop :=
  ∃ es clock, w.heap[b]? = some (.map es clock) ∧ EsR K V es.toList L ∧ (L.map (·.1)).Nodup ∧ (∀ e ∈ es.toList, e.born < clock) ∧ (es.toList.map (·.born)).Nodup
theorem MapR.lt {w : World} {b : Nat} {L : List (α × β)} (h : MapR w b K V L) : b < w.heap.size := by
  obtain ⟨es, clock, hb, _⟩ := h
  exact (Array.getElem?_eq_some_iff.1 hb).1
theorem MapR.to {w w' : World} {b : Nat} {L : List (α × β)} (h : MapR w b K V L) (e : w'.heap[b]? = w.heap[b]?) : MapR w' b K V L := by
  obtain ⟨es, clock, hb, h2⟩ := h
  exact ⟨es, clock, e.trans hb, h2⟩
theorem MapR.below {w w' : World} {b B : Nat} {L : List (α × β)} (h : MapR w b K V L) (hb : Below B w w') (hB : b < B) : MapR w' b K V L := h.to (hb.block b hB)
theorem MapR.fr {S : Nat → Prop} {w w' : World} {b : Nat} {L : List (α × β)} (h : MapR w b K V L) (hf : Fr S w w') (hs : ¬ S b) : MapR w' b K V L := h.to (hf.block b h.lt hs)
theorem MapR.new (w : World) (K : α → Value) (V : β → Value) : MapR (w.alloc (.map #[] 0)) w.heap.size K V [] :=
  ⟨#[], 0, heap_alloc_new w _, rfl, List.nodup_nil, by simp, by simp⟩
theorem MapR.ne_blk {w : World} {b g t : Nat} {cs : Array Value} {L : List (α × β)} (h : MapR w b K V L) (k : Blk w g t cs) : b ≠ g := by
  rintro rfl
  obtain ⟨es, clock, hb, _⟩ := h
  unfold Blk at k
  rw [hb] at k
  cases k
theorem MapR.ne_own {w : World} {b base e sz n : Nat} {v : Value} {xs : List Value} {L : List (α × β)} (h : MapR w b K V L) (k : Own w base e sz v n xs) : ¬ v.ownBlock = some b := by
  intro hv
  obtain ⟨cs, hc⟩ := k.typed b hv
  exact h.ne_blk hc rfl

theorem MapR.size {w : World} {b : Nat} {L : List (α × β)} (h : MapR w b K V L) : ∃ es clock, w.heap[b]? = some (.map es clock) ∧ es.size = L.length := by
  obtain ⟨es, clock, hb, he, _⟩ := h
  refine ⟨es, clock, hb, ?_⟩
  have := congrArg List.length he
  simpa using this
end

section
variable {α β : Type} [DecidableEq α] {K : α → Value} {V : β → Value} {P : Program} {kt : TypeId}

def fk : List (α × β) → α → Nat → Option (Nat × β)
  | [], _, _ => none
  | (b, u) :: L, a, i => if a = b then some (i, u) else fk L a (i + 1)
def lk : List (α × β) → α → Option β
  | [], _ => none
  | (b, u) :: L, a => if a = b then some u else lk L a
def putM : List (α × β) → α → β → List (α × β)
  | [], a, v => [(a, v)]
  | (b, u) :: L, a, v => if a = b then (a, v) :: L else (b, u) :: putM L a v
def delM : List (α × β) → α → List (α × β)
  | [], _ => []
  | (b, u) :: L, a => if a = b then L else (b, u) :: delM L a
theorem fk_lk : ∀ (L : List (α × β)) (a : α) (i : Nat), (fk L a i).map (·.2) = lk L a
  | [], _, _ => rfl
  | (b, u) :: L, a, i => by
    unfold fk lk
    split
    · rfl
    · exact fk_lk L a (i + 1)
theorem lk_put (L : List (α × β)) (a b : α) (v : β) : lk (putM L a v) b = if b = a then some v else lk L b := by
  induction L with
  | nil => simp [putM, lk]
  | cons p L ih =>
    obtain ⟨c, u⟩ := p
    unfold putM
    split
    · rename_i h
      subst h
      simp only [lk]
      split <;> rfl
    · rename_i h
      simp only [lk, ih]
      split
      · rename_i h2
        subst h2
        rw [if_neg (fun e => h e.symm)]
      · rfl
theorem mem_keys_put (L : List (α × β)) (a b : α) (v : β) : b ∈ (putM L a v).map (·.1) ↔ b = a ∨ b ∈ L.map (·.1) := by
  induction L with
  | nil => simp [putM]
  | cons p L ih =>
    obtain ⟨c, u⟩ := p
    unfold putM
    split
    · rename_i h
      subst h
      simp
    · simp only [List.map_cons, List.mem_cons, ih]
      constructor
      · rintro (h | h | h)
        · exact .inr (.inl h)
        · exact .inl h
        · exact .inr (.inr h)
      · rintro (h | h | h)
        · exact .inr (.inl h)
        · exact .inl h
        · exact .inr (.inr h)
theorem nodup_put {L : List (α × β)} (h : (L.map (·.1)).Nodup) (a : α) (v : β) : ((putM L a v).map (·.1)).Nodup := by
  induction L with
  | nil => simp [putM]
  | cons p L ih =>
    obtain ⟨c, u⟩ := p
    rw [List.map_cons, List.nodup_cons] at h
    unfold putM
    split
    · rename_i h2
      subst h2
      rw [List.map_cons, List.nodup_cons]
      exact h
    · rename_i h2
      rw [List.map_cons, List.nodup_cons]
      refine ⟨fun h3 => ?_, ih h.2⟩
      rcases (mem_keys_put L a c v).1 h3 with h4 | h4
      · exact h2 h4.symm
      · exact h.1 h4
theorem lk_none {L : List (α × β)} {a : α} (h : a ∉ L.map (·.1)) : lk L a = none := by
  induction L with
  | nil => rfl
  | cons p L ih =>
    obtain ⟨c, u⟩ := p
    rw [List.map_cons, List.mem_cons, not_or] at h
    rw [lk, if_neg h.1, ih h.2]
theorem mem_keys_del (L : List (α × β)) (a b : α) (h : b ∈ (delM L a).map (·.1)) : b ∈ L.map (·.1) := by
  induction L with
  | nil => simp [delM] at h
  | cons p L ih =>
    obtain ⟨c, u⟩ := p
    unfold delM at h
    split at h
    · exact List.mem_cons_of_mem _ h
    · rw [List.map_cons, List.mem_cons] at h ⊢
      rcases h with h | h
      · exact .inl h
      · exact .inr (ih h)
theorem nodup_del {L : List (α × β)} (h : (L.map (·.1)).Nodup) (a : α) : ((delM L a).map (·.1)).Nodup := by
  induction L with
  | nil => simp [delM]
  | cons p L ih =>
    obtain ⟨c, u⟩ := p
    rw [List.map_cons, List.nodup_cons] at h
    unfold delM
    split
    · exact h.2
    · rw [List.map_cons, List.nodup_cons]
      exact ⟨fun h3 => h.1 (mem_keys_del L a c h3), ih h.2⟩
theorem lk_del {L : List (α × β)} (h : (L.map (·.1)).Nodup) (a b : α) : lk (delM L a) b = if b = a then none else lk L b := by
  induction L with
  | nil => simp [delM, lk]
  | cons p L ih =>
    obtain ⟨c, u⟩ := p
    rw [List.map_cons, List.nodup_cons] at h
    unfold delM
    split
    · rename_i h2
      subst h2
      split
      · rename_i h3
        subst h3
        exact lk_none h.1
      · rename_i h3
        rw [lk, if_neg h3]
    · rename_i h2
      simp only [lk, ih h.2]
      split
      · rename_i h3
        subst h3
        rw [if_neg (fun e => h2 e.symm)]
      · rfl

theorem run_asking (W : KeyW P kt K) : ∀ (es : List MapEntry) (L : List (α × β)) (a : α) (i : Nat) (w : World), EsR K V es L →
    (Instr.findAsking kt (K a) es i).run P w = .ok ((fk L a i).map fun p => (p.1, V p.2)) w := by
  intro es
  induction es with
  | nil =>
    intro L a i w h
    rw [h.nil]
    rfl
  | cons e es ih =>
    intro L a i w h
    obtain ⟨b, u, M, rfl, h1, h2, h3⟩ := h.cons
    unfold Instr.findAsking
    rw [Sem.run_bind, h1, W.eq a b w]
    simp only [Result.andThen]
    unfold fk
    by_cases hab : a = b
    · rw [decide_eq_true hab, if_pos rfl, if_pos hab, h2]
      rfl
    · rw [decide_eq_false hab, if_neg (by simp), if_neg hab]
      exact ih M a (i + 1) w h3
theorem run_find (W : KeyW P kt K) (es : List MapEntry) (L : List (α × β)) (a : α) (w : World) (h : EsR K V es L) :
    (Instr.findKey kt (K a) es).run P w = .ok ((fk L a 0).map fun p => (p.1, V p.2)) w := by
  obtain ⟨fs, hu⟩ := W.und
  unfold Instr.findKey
  rw [Sem.run_bind, run_underlying hu]
  simp only [Result.andThen]
  cases es with
  | nil =>
    rw [h.nil]
    rfl
  | cons e es =>
    have hn : Instr.findNow (.struct fs) (K a) (e :: es) 0 = none := by
      unfold Instr.findNow
      have : Instr.sameNow (.struct fs) (K a) e.key = none := by
        unfold Instr.sameNow
        split <;> first | rfl | simp_all
      rw [this]
    rw [hn]
    exact run_asking W (e :: es) L a 0 w h

theorem MapR.look (W : KeyW P kt K) {w : World} {b : Nat} {L : List (α × β)} (h : MapR w b K V L) {mt et : TypeId} (ht : P.underlying mt = some (.map kt et)) {z : Value} (hz : ∀ w, (zeroValue et).run P w = .ok z w) (a : α) (ok : Bool) :
    (Instr.lookup mt (.map (some b)) (K a) ok).run P w = .ok (if ok then .tuple #[((lk L a).map V).getD z, .bool (lk L a).isSome] else ((lk L a).map V).getD z) w := by
  obtain ⟨es, clock, hb, he, _⟩ := h
  unfold Instr.lookup
  rw [Sem.run_bind, run_underlying ht]
  simp only [Result.andThen]
  rw [Sem.run_bind, MapKept.run_getObj_map hb]
  simp only [Result.andThen]
  rw [Sem.run_bind, Sem.run_pure]
  simp only [Result.andThen]
  rw [Sem.run_bind, W.chk]
  simp only [Result.andThen]
  rw [Sem.run_bind, run_find W es.toList L a w he]
  simp only [Result.andThen]
  rw [← fk_lk L a 0]
  cases hf : fk L a 0 with
  | none =>
    simp only [Option.map_none, Sem.run_bind, hz, Result.andThen, Sem.run_pure]
    cases ok <;> rfl
  | some p =>
    simp only [Option.map_some, Sem.run_pure, Sem.run_bind, Result.andThen]
    cases ok <;> rfl

theorem modify_born (f : MapEntry → MapEntry) (hf : ∀ e, (f e).born = e.born) : ∀ (es : List MapEntry) (i : Nat), (es.modify i f).map (·.born) = es.map (·.born)
  | [], i => by cases i <;> rfl
  | e :: es, 0 => by simp [hf]
  | e :: es, i + 1 => by simp [modify_born f hf es i]
theorem es_modify : ∀ (es : List MapEntry) (L : List (α × β)) (a : α) (v : β) (k j : Nat) (u : β), EsR K V es L → fk L a k = some (j, u) →
    ∃ i, j = k + i ∧ EsR K V (es.modify i fun e => { e with key := K a, val := V v }) (putM L a v) ∧ (es[i]?).map (·.key) = some (K a) := by
  intro es
  induction es with
  | nil => intro L a v k j u h hf; rw [h.nil] at hf; cases hf
  | cons e es ih =>
    intro L a v k j u h hf
    obtain ⟨b, x, M, rfl, h1, h2, h3⟩ := h.cons
    unfold fk at hf
    by_cases hab : a = b
    · rw [if_pos hab] at hf
      injection hf with hf
      injection hf with h4 h5
      subst hab
      refine ⟨0, by omega, ?_, by simp [h1]⟩
      unfold EsR at h3 ⊢
      rw [putM, if_pos rfl]
      simp [h3]
    · rw [if_neg hab] at hf
      obtain ⟨i, h4, h5, h6⟩ := ih M a v (k + 1) j u h3 hf
      refine ⟨i + 1, by omega, ?_, by simpa using h6⟩
      unfold EsR at h5 ⊢
      rw [putM, if_neg hab]
      simp [h1, h2, h5]
theorem es_push : ∀ (es : List MapEntry) (L : List (α × β)) (a : α) (v : β) (k c : Nat), EsR K V es L → fk L a k = none → EsR K V (es ++ [{ key := K a, val := V v, born := c }]) (putM L a v) := by
  intro es
  induction es with
  | nil => intro L a v k c h hf; rw [h.nil]; rfl
  | cons e es ih =>
    intro L a v k c h hf
    obtain ⟨b, x, M, rfl, h1, h2, h3⟩ := h.cons
    unfold fk at hf
    by_cases hab : a = b
    · rw [if_pos hab] at hf; cases hf
    · rw [if_neg hab] at hf
      have h5 := ih M a v (k + 1) c h3 hf
      unfold EsR at h5 ⊢
      rw [putM, if_neg hab]
      simp only [List.cons_append, List.map_cons, h1, h2, h5]
theorem es_erase : ∀ (es : List MapEntry) (L : List (α × β)) (a : α) (k j : Nat) (u : β), EsR K V es L → fk L a k = some (j, u) → ∃ i, j = k + i ∧ i < es.length ∧ EsR K V (es.eraseIdx i) (delM L a) := by
  intro es
  induction es with
  | nil => intro L a k j u h hf; rw [h.nil] at hf; cases hf
  | cons e es ih =>
    intro L a k j u h hf
    obtain ⟨b, x, M, rfl, h1, h2, h3⟩ := h.cons
    unfold fk at hf
    by_cases hab : a = b
    · rw [if_pos hab] at hf
      injection hf with hf
      injection hf with h4 h5
      refine ⟨0, by omega, by simp, ?_⟩
      rw [delM, if_pos hab]
      exact h3
    · rw [if_neg hab] at hf
      obtain ⟨i, h4, h5, h6⟩ := ih M a (k + 1) j u h3 hf
      refine ⟨i + 1, by omega, by simpa using h5, ?_⟩
      unfold EsR at h6 ⊢
      rw [delM, if_neg hab]
      simp [h1, h2, h6]
theorem del_none : ∀ (L : List (α × β)) (a : α) (k : Nat), fk L a k = none → delM L a = L
  | [], _, _, _ => rfl
  | (b, u) :: L, a, k, h => by
    unfold fk at h
    unfold delM
    by_cases hab : a = b
    · rw [if_pos hab] at h; cases h
    · rw [if_neg hab] at h
      rw [if_neg hab, del_none L a (k + 1) h]

theorem fr_set {w : World} {b : Nat} {o : Obj} : Fr (fun k => k = b) w { w with heap := w.heap.setIfInBounds b o } :=
  ⟨rfl, rfl, rfl, by simp, fun k hk hn => by simp [Ne.symm hn]⟩
theorem MapR.upd (W : KeyW P kt K) {w : World} {b : Nat} {L : List (α × β)} (h : MapR w b K V L) {mt et : TypeId} (ht : P.underlying mt = some (.map kt et)) (a : α) (v : β) :
    ∃ w', (Instr.mapUpdate mt (.map (some b)) (K a) (V v)).run P w = .ok () w' ∧ MapR w' b K V (putM L a v) ∧ Fr (fun k => k = b) w w' ∧ w'.heap.size = w.heap.size := by
  obtain ⟨es, clock, hb, he, hnd, hlt, hbn⟩ := h
  have hlt2 : b < w.heap.size := (Array.getElem?_eq_some_iff.1 hb).1
  have key : (Instr.mapUpdate mt (.map (some b)) (K a) (V v)).run P w = (((Instr.findKey kt (K a) es.toList).run P w).andThen fun r w' => (match r with
    | some (i, _) => (do
      let key ← Instr.keyThatStays (((es[i]?).map (fun e : MapEntry => e.key)).getD (K a)) (K a)
      setObj b (.map (es.modify i fun e => { e with key, val := V v }) clock) : Sem Unit)
    | none => setObj b (.map (es.push { key := K a, val := V v, born := clock }) (clock + 1))).run P w') := by
    unfold Instr.mapUpdate
    rw [Sem.run_bind, run_underlying ht]
    simp only [Result.andThen]
    rw [Sem.run_bind, MapKept.run_getObj_map hb]
    simp only [Result.andThen]
    rw [Sem.run_bind, W.chk]
    simp only [Result.andThen]
    rw [Sem.run_bind]
    rfl
  rw [key, run_find W es.toList L a w he]
  simp only [Result.andThen]
  cases hf : fk L a 0 with
  | none =>
    simp only [Option.map_none]
    rw [MapKept.run_setObj_map _ hb]
    refine ⟨_, rfl, ⟨_, _, (MapKept.heap_set hb).1, ?_, nodup_put hnd a v, ?_, ?_⟩, fr_set, by simp⟩
    · rw [Array.toList_push]
      exact es_push es.toList L a v 0 clock he hf
    · intro e hm
      rw [Array.toList_push] at hm
      rcases List.mem_append.1 hm with h1 | h1
      · have := hlt e h1; omega
      · rw [List.mem_singleton.1 h1]; simp
    · rw [Array.toList_push, List.map_append, List.nodup_append]
      refine ⟨hbn, by simp, ?_⟩
      intro x hx y hy e
      simp only [List.map_cons, List.map_nil, List.mem_singleton] at hy
      obtain ⟨z, hz, rfl⟩ := List.mem_map.1 hx
      have := hlt z hz
      omega
  | some p =>
    obtain ⟨j, u⟩ := p
    obtain ⟨i, h1, h2, h3⟩ := es_modify es.toList L a v 0 j u he hf
    have hij : j = i := by omega
    subst hij
    simp only [Option.map_some]
    have h4 : ((es[j]?).map (·.key)).getD (K a) = K a := by
      rw [Array.getElem?_toList] at h3
      rw [h3]
      rfl
    rw [h4, Sem.run_bind]
    have h5 : (Instr.keyThatStays (K a) (K a)).run P w = .ok (K a) w := by
      unfold Instr.keyThatStays
      rw [if_pos (W.bits a)]
      rfl
    rw [h5]
    simp only [Result.andThen]
    rw [MapKept.run_setObj_map _ hb]
    refine ⟨_, rfl, ⟨_, _, (MapKept.heap_set hb).1, ?_, nodup_put hnd a v, ?_, ?_⟩, fr_set, by simp⟩
    · rw [Array.toList_modify]
      exact h2
    · intro e hm
      rw [Array.toList_modify] at hm
      have h6 := modify_born (fun e => { e with key := K a, val := V v }) (fun _ => rfl) es.toList j
      have h7 : e.born ∈ (es.toList.modify j fun e => { e with key := K a, val := V v }).map (·.born) := List.mem_map_of_mem hm
      rw [h6] at h7
      obtain ⟨z, hz, h8⟩ := List.mem_map.1 h7
      rw [← h8]
      exact hlt z hz
    · rw [Array.toList_modify, modify_born (fun e => { e with key := K a, val := V v }) (fun _ => rfl)]
      exact hbn
theorem MapR.del (W : KeyW P kt K) {w : World} {b : Nat} {L : List (α × β)} (h : MapR w b K V L) {mt et ty : TypeId} (ht : P.underlying mt = some (.map kt et)) (a : α) :
    ∃ w', (Builtin.delete_ #[mt, kt] ty #[.map (some b), K a]).run P w = .ok (.tuple #[]) w' ∧ MapR w' b K V (delM L a) ∧ Fr (fun k => k = b) w w' ∧ w'.heap.size = w.heap.size := by
  obtain ⟨es, clock, hb, he, hnd, hlt, hbn⟩ := h
  unfold Builtin.delete_
  simp only [List.getElem?_toArray, List.getElem?_cons_zero, List.getElem?_cons_succ]
  rw [Sem.run_bind, run_underlying ht]
  simp only [Result.andThen]
  rw [Sem.run_bind, MapKept.run_getObj_map hb]
  simp only [Result.andThen]
  rw [Sem.run_bind, W.chk]
  simp only [Result.andThen]
  rw [Sem.run_bind, run_find W es.toList L a w he]
  simp only [Result.andThen]
  cases hf : fk L a 0 with
  | none =>
    simp only [Option.map_none]
    rw [Sem.run_bind, MapKept.run_setObj_map _ hb]
    refine ⟨_, rfl, ⟨_, _, (MapKept.heap_set hb).1, ?_, nodup_del hnd a, hlt, hbn⟩, fr_set, by simp⟩
    rw [del_none L a 0 hf]
    exact he
  | some p =>
    obtain ⟨j, u⟩ := p
    obtain ⟨i, h1, h2, h3⟩ := es_erase es.toList L a 0 j u he hf
    have hij : j = i := by omega
    subst hij
    simp only [Option.map_some]
    rw [Sem.run_bind, MapKept.run_setObj_map _ hb]
    have hes : (es.eraseIdxIfInBounds j).toList = es.toList.eraseIdx j := by
      unfold Array.eraseIdxIfInBounds
      rw [dif_pos (by simpa using h2), Array.toList_eraseIdx]
    refine ⟨_, rfl, ⟨_, _, (MapKept.heap_set hb).1, ?_, nodup_del hnd a, ?_, ?_⟩, fr_set, by simp⟩
    · rw [hes]
      exact h3
    · intro e hm
      rw [hes] at hm
      exact hlt e (List.mem_of_mem_eraseIdx hm)
    · rw [hes]
      exact hbn.sublist ((List.eraseIdx_sublist _ _).map _)
end

end Go.Proofs.Ytogelnljkdcajaa

namespace Go.Proofs.Ytogelnljkdcajaa
open Go.RowKit
set_option linter.unusedVariables false
set_option linter.unusedSimpArgs false

theorem compare_eq : ∀ (D E : List Int), Bytes8 D → Bytes8 E → Lib.compareBytes (Lib.bytesOf D) (Lib.bytesOf E) = cmpB D E
  | [], [], _, _ => rfl
  | [], _ :: _, _, _ => rfl
  | _ :: _, [], _, _ => rfl
  | d :: D, e :: E, h1, h2 => by
    have hd := h1 d List.mem_cons_self
    have he := h2 e List.mem_cons_self
    have ih := compare_eq D E (fun c hc => h1 c (List.mem_cons_of_mem _ hc)) (fun c hc => h2 c (List.mem_cons_of_mem _ hc))
    have e1 : Lib.bytesOf (d :: D) = d.toNat.toUInt8 :: Lib.bytesOf D := rfl
    have e2 : Lib.bytesOf (e :: E) = e.toNat.toUInt8 :: Lib.bytesOf E := rfl
    rw [e1, e2, Lib.compareBytes, cmpB, ih]
    have l1 : (d.toNat.toUInt8 < e.toNat.toUInt8) ↔ d < e := by
      rw [UInt8.lt_iff_toNat_lt]
      simp
      omega
    have l2 : (e.toNat.toUInt8 < d.toNat.toUInt8) ↔ e < d := by
      rw [UInt8.lt_iff_toNat_lt]
      simp
      omega
    simp only [l1, l2]
theorem sl_bytes (v : Value) (D : List Int) (n B : Nat) (w : World) (hs : Sl w B v 1 n (bys D)) (hD : D.length = n) : (Extern.Bytes.bytesOf v).run Try.prog w = .ok ⟨(Lib.bytesOf D).toArray⟩ w := by
  obtain ⟨A, c, rfl, hnc⟩ := hs.form
  subst hD
  cases A with
  | none =>
    have hn0 : D = [] := by
      rcases Nat.eq_zero_or_pos D.length with h | h
      · exact List.eq_nil_of_length_eq_zero h
      · obtain ⟨_, _, _, h5⟩ := hs.inv
        obtain ⟨ad, had, _⟩ := h5 h
        cases had
    subst hn0
    rfl
  | some ad =>
    have h := Lib.run_loadBytesX (P := Try.prog) w D ad .empty (fun j x hx => by
      have hj := (List.getElem?_eq_some_iff.1 hx)
      obtain ⟨ad2, he, _, hc⟩ := by_at hs hj.1 rfl
      injection he with he
      subst he
      rw [hc, ← hj.2])
    show (Extern.Bytes.loadBytes ad D.length .empty).run _ w = _
    rw [h]
    simp
theorem bcompare_any (v u : Value) (D E : List Int) (m n B C : Nat) (w : World) (hs : Sl w B v 1 m (bys D)) (hu : Sl w C u 1 n (bys E)) (hD : D.length = m) (hE : E.length = n) (h1 : Bytes8 D) (h2 : Bytes8 E) :
    Calls Try.prog 53 #[v, u] w fun e w' => e = .returned (.int .i64 (cmpB D E)) ∧ w' = w := by
  have hx : (Extern.BytealgCompare.compare #[v, u]).run Try.prog w = .ok (.int .i64 (cmpB D E)) w := by
    change Sem.run _ (do pure (goInt (Extern.BytealgCompare.cmp (← Extern.Bytes.bytesOf v) (← Extern.Bytes.bytesOf u)))) w = _
    simp only [Sem.run_bind, sl_bytes v D m B w hs hD, sl_bytes u E n C w hu hE, Sem.run_pure, Result.andThen]
    rw [Lib.cmp_eq]
    show Result.ok (goInt (Lib.compareBytes (Lib.bytesOf D) (Lib.bytesOf E))) w = _
    rw [compare_eq D E h1 h2]
    rfl
  have hcall : (callFunc 67 #[v, u]).run Try.prog w = .ok (.value (.int .i64 (cmpB D E))) w := by
    rw [run_callFunc_extern Try.func67 (by kernel_rfl) (by kernel_rfl) (by kernel_rfl) (e := Extern.BytealgCompare.compare) (by kernel_rfl), hx]
    rfl
  obtain ⟨A, c, rfl, hc⟩ := hs.form
  obtain ⟨A', c', rfl, hc'⟩ := hu.form
  clear hs hu hD hE hx
  go_enter Try.func53, Try.ntmps53
  go_wp2_with fail
  go_ret
  exact ⟨rfl, rfl⟩

end Go.Proofs.Ytogelnljkdcajaa

namespace Go.Proofs.Ytogelnljkdcajaa
open Go.RowKit
set_option linter.unusedVariables false
set_option linter.unusedSimpArgs false

structure Nm where
  s : ByteArray
  f : Int
  t : Int
  w : Int
deriving DecidableEq
def nmV (n : Nm) : Value := .agg #[.string n.s, .int .i64 n.f, .int .i64 n.t, .int .i64 n.w]
abbrev nmT : Nat := 83
theorem nm_eq (a b : Nm) (w : World) : (Op.equal nmT (nmV a) (nmV b)).run Try.prog w = .ok (decide (a = b)) w := by
  show (Op.equalIn 10000 nmT _ _).run _ w = _
  unfold nmV
  go_simp
  obtain ⟨s, f, t, x⟩ := a
  obtain ⟨s', f', t', x'⟩ := b
  simp only
  have hl : s.toList = s'.toList ↔ s = s' := ⟨fun h => ByteArray.ext (Array.toList_inj.1 (by rw [← ByteArray.toList_eq, ← ByteArray.toList_eq]; exact h)), fun h => by rw [h]⟩
  by_cases h1 : s = s'
  · by_cases h2 : f = f'
    · by_cases h3 : t = t'
      · by_cases h4 : x = x'
        · simp [h1, h2, h3, h4]
        · simp [h1, h2, h3, h4]
      · simp [h1, h2, h3]
    · simp [h1, h2]
  · rw [if_neg (fun h => h1 (hl.1 h))]
    simp [h1]
theorem nm_chk (e : Bool) (a : Nm) (w : World) : (Instr.checkKey e 10000 nmT (nmV a)).run Try.prog w = .ok () w := by
  obtain ⟨s, f, t, x⟩ := a
  cases e <;> kernel_rfl
theorem nm_bits (a : Nm) : Instr.sameBits 10000 (nmV a) (nmV a) = true := by
  have : Instr.sameBits 10000 (nmV a) (nmV a) = ((a.s == a.s) && (((IntKind.i64 == IntKind.i64) && (a.f == a.f)) && (((IntKind.i64 == IntKind.i64) && (a.t == a.t)) && (((IntKind.i64 == IntKind.i64) && (a.w == a.w)) && true)))) := by kernel_rfl
  rw [this, beq_toListBytes]
  simp

theorem nmW : KeyW Try.prog nmT nmV := ⟨⟨_, Try.underlying83⟩, nm_eq, nm_chk, nm_bits⟩
abbrev placeT : Nat := 66
theorem placeU : Try.prog.underlying placeT = some (.map nmT 3) := by kernel_rfl
theorem zeroInt (w : World) : (zeroValue 3).run Try.prog w = .ok (.int .i64 0) w := by kernel_rfl
def intV (n : Int) : Value := .int .i64 n

end Go.Proofs.Ytogelnljkdcajaa

namespace Go.Proofs.Ytogelnljkdcajaa
open Go.RowKit Go.Sort
set_option linter.unusedVariables false
set_option linter.unusedSimpArgs false

/-- a timer in memory: its key's slice, its key's bytes -/
structure TV where
  a : Int
  kv : Value
  kb : List Int
  f : Int
  t : Int
  w : Int
def TV.win (x : TV) : Win := ⟨x.f, x.t⟩
def TV.cells (x : TV) : List Value := [.int .i64 x.a, x.kv, .int .i64 x.f, .int .i64 x.t, .int .i64 x.w]
theorem TV.cells5 (x : TV) : x.cells.length = 5 := rfl
def tms (L : List TV) : List Value := L.flatMap TV.cells
theorem tms_len (L : List TV) : (tms L).length = L.length * 5 := flat_len _ 5 TV.cells5 L
theorem tms_app (C D : List TV) : tms (C ++ D) = tms C ++ tms D := List.flatMap_append ..
abbrev tmT : Nat := 37
theorem tyT : SlTy Try.prog 46 tmT 5 56 (.agg #[.int .i64 0, .slice none 0 0, .int .i64 0, .int .i64 0, .int .i64 0]) := ⟨Try.underlying46, info_parts (by kernel_rfl), rfl, by omega⟩
/-- its key is read -/
structure KeyIn (w : World) (B : Nat) (x : TV) : Prop where
  sl : Sl w B x.kv 1 x.kb.length (bys x.kb)
  b8 : Bytes8 x.kb
theorem KeyIn.below {w w' : World} {B : Nat} {x : TV} (h : KeyIn w B x) (hb : Below B w w') : KeyIn w' B x := ⟨h.sl.below hb, h.b8⟩
theorem KeyIn.mono {w : World} {B B' : Nat} {x : TV} (h : KeyIn w B x) (hb : B ≤ B') : KeyIn w B' x := ⟨h.sl.mono hb, h.b8⟩

def ordT (x y : TV) : Int :=
  if x.a ≠ y.a then cmpI x.a y.a else if wlt x.win y.win then -1 else if wlt y.win x.win then 1 else orI (cmpB x.kb y.kb) (cmpI x.w y.w)
theorem less_grow7 (af at_ bf bt : Int) (w : World) : Calls Try.prog 51 #[.agg #[.int .i64 af, .int .i64 at_], .agg #[.int .i64 bf, .int .i64 bt]] w fun e w' => e = .returned (.bool (decide (wlt ⟨af, at_⟩ ⟨bf, bt⟩))) ∧ ∃ q os, w' = grow (w.drewN q) os := by
  obtain ⟨r, hr⟩ : ∃ r : Bool, r = decide (wlt ⟨af, at_⟩ ⟨bf, bt⟩) := ⟨_, rfl⟩
  rw [← hr]
  have HR : Hid (r = decide (ordI ⟨af, at_⟩ ⟨bf, bt⟩ < 0)) := by show _ = _; rw [hr]; exact decide_eq_decide.2 (ordI_neg _ _).symm
  clear hr
  go_enter Try.func51, Try.ntmps51
  go_wp2_with fail
  refine (order_any7 af at_ bf bt _).mono ?_
  rintro e w2 ⟨rfl, q, os, rfl⟩
  have HB2 : Hid (∃ q' os', grow (((w.alloc (.cells #[.int .i64 af, .int .i64 at_] wT)).alloc (.cells #[.int .i64 bf, .int .i64 bt] wT)).drewN q) os = grow (w.drewN q') os') := ⟨q, _, by rw [alloc_eq_grow, alloc_eq_grow, grow_grow]; show grow (grow (w.drewN q) _) os = _; rw [grow_grow]⟩
  generalize grow (World.drewN _ q) os = w3 at *
  generalize ordI ⟨af, at_⟩ ⟨bf, bt⟩ = x at *
  go_wp2_with fail
  go_ret
  rw [HR.out]
  exact ⟨rfl, HB2.out⟩
theorem grow_trans {w w1 w2 : World} (h : ∃ q os, w1 = grow (w.drewN q) os) (k : ∃ q os, w2 = grow (w1.drewN q) os) : ∃ q os, w2 = grow (w.drewN q) os := by
  obtain ⟨q, os, rfl⟩ := h
  obtain ⟨q', os', rfl⟩ := k
  refine ⟨q + q', os ++ os', ?_⟩
  show grow (grow ((w.drewN q).drewN q') os) os' = _
  rw [grow_grow]
  congr 1
  rw [World.drewN_drewN]
theorem grow_alloc (w : World) (o : Obj) : ∃ q os, w.alloc o = grow (w.drewN q) os := ⟨0, _, by rw [alloc_eq_grow]; rfl⟩
theorem grow_drew (w : World) (j : Nat) : ∃ q os, w.drewN j = grow (w.drewN q) os := ⟨j, #[], by rw [grow_empty]⟩
theorem grow_bel {w w' : World} (h : ∃ q os, w' = grow (w.drewN q) os) : Below w.heap.size w w' := by
  obtain ⟨q, os, rfl⟩ := h
  exact grow_below q os

set_option maxHeartbeats 8000000 in
theorem order_any (x y : TV) (B : Nat) (w : World) (hx : KeyIn w B x) (hy : KeyIn w B y) (hB : B ≤ w.heap.size) :
    Calls Try.prog 36 #[.agg x.cells.toArray, .agg y.cells.toArray] w fun e w' => e = .returned (.int .i64 (ordT x y)) ∧ ∃ q os, w' = grow (w.drewN q) os := by
  obtain ⟨xa, xk, xb, xf, xt, xw⟩ := x
  obtain ⟨ya, yk, yb, yf, yt, yw⟩ := y
  obtain ⟨A, c, hkx, hc⟩ := hx.sl.form
  obtain ⟨A', c', hky, hc'⟩ := hy.sl.form
  simp only at hkx hky hc hc'
  subst hkx hky
  have HX := hide hx
  have HY := hide hy
  obtain ⟨r, hr⟩ : ∃ r, r = ordT ⟨xa, .slice A xb.length c, xb, xf, xt, xw⟩ ⟨ya, .slice A' yb.length c', yb, yf, yt, yw⟩ := ⟨_, rfl⟩
  rw [← hr]
  have HR : Hid (r = if xa ≠ ya then cmpI xa ya else if wlt ⟨xf, xt⟩ ⟨yf, yt⟩ then -1 else if wlt ⟨yf, yt⟩ ⟨xf, xt⟩ then 1 else orI (cmpB xb yb) (cmpI xw yw)) := by
    show _ = _; rw [hr]; rfl
  clear hr hx hy
  obtain ⟨n, hn⟩ : ∃ n, n = xb.length := ⟨_, rfl⟩
  obtain ⟨m, hm⟩ : ∃ m, m = yb.length := ⟨_, rfl⟩
  rw [← hn] at HX hc ⊢
  rw [← hm] at HY hc' ⊢
  have HN := hide hn
  have HM := hide hm
  have HXS : Hid (Sl w B (.slice A n c) 1 n (bys xb)) := by have h9 := HX.out.sl; simp only [← hn] at h9; exact h9
  have HYS : Hid (Sl w B (.slice A' m c') 1 m (bys yb)) := by have h9 := HY.out.sl; simp only [← hm] at h9; exact h9
  have HX8 := hide HX.out.b8
  have HY8 := hide HY.out.b8
  clear hn hm HX HY
  unfold TV.cells
  simp only at HX8 HY8 ⊢
  have HP : Hid (Blk ((w.alloc (.cells #[.int .i64 xa, .slice A n c, .int .i64 xf, .int .i64 xt, .int .i64 xw] tmT)).alloc (.cells #[.int .i64 ya, .slice A' m c', .int .i64 yf, .int .i64 yt, .int .i64 yw] tmT)) w.heap.size tmT #[.int .i64 xa, .slice A n c, .int .i64 xf, .int .i64 xt, .int .i64 xw]) := (Blk.new w _ _).alloc _
  have HQ : Hid (Blk ((w.alloc (.cells #[.int .i64 xa, .slice A n c, .int .i64 xf, .int .i64 xt, .int .i64 xw] tmT)).alloc (.cells #[.int .i64 ya, .slice A' m c', .int .i64 yf, .int .i64 yt, .int .i64 yw] tmT)) (w.heap.size + 1) tmT #[.int .i64 ya, .slice A' m c', .int .i64 yf, .int .i64 yt, .int .i64 yw]) := by
    have h9 := Blk.new (w.alloc (.cells #[.int .i64 xa, .slice A n c, .int .i64 xf, .int .i64 xt, .int .i64 xw] tmT)) tmT #[.int .i64 ya, .slice A' m c', .int .i64 yf, .int .i64 yt, .int .i64 yw]
    simpa [Hid] using h9
  have HE : Hid (∃ q os, (w.alloc (.cells #[.int .i64 xa, .slice A n c, .int .i64 xf, .int .i64 xt, .int .i64 xw] tmT)).alloc (.cells #[.int .i64 ya, .slice A' m c', .int .i64 yf, .int .i64 yt, .int .i64 yw] tmT) = grow (w.drewN q) os) := grow_trans (grow_alloc w _) (grow_alloc _ _)
  go_enter Try.func36, Try.ntmps36
  go_upto_region 1 with fail
  generalize (w.alloc (.cells #[.int .i64 xa, .slice A n c, .int .i64 xf, .int .i64 xt, .int .i64 xw] tmT)).alloc (.cells #[.int .i64 ya, .slice A' m c', .int .i64 yf, .int .i64 yt, .int .i64 yw] tmT) = w1 at *
  obtain ⟨pb, hpb⟩ : ∃ pb, pb = w.heap.size := ⟨_, rfl⟩
  obtain ⟨qb, hqb⟩ : ∃ qb, qb = w.heap.size + 1 := ⟨_, rfl⟩
  rw [← hqb] at HQ ⊢
  rw [← hpb] at HP ⊢
  have HBW := hide (grow_bel HE.out)
  have HXS1 := hide (HXS.out.below (HBW.out.mono hB))
  have HYS1 := hide (HYS.out.below (HBW.out.mono hB))
  have hB1 : B ≤ w1.heap.size := Nat.le_trans hB HBW.out.size
  clear hpb hqb HXS HYS
  have hp := HP.out.lt
  have hq := HQ.out.lt
  have HPQ : Hid (∀ X : World, Below w1.heap.size w1 X → (X.cell? ⟨pb, 0, none⟩ = some (.int .i64 xa) ∧ X.cell? ⟨pb, 1, none⟩ = some (.slice A n c) ∧ X.cell? ⟨pb, 2, none⟩ = some (.int .i64 xf) ∧ X.cell? ⟨pb, 3, none⟩ = some (.int .i64 xt) ∧ X.cell? ⟨pb, 4, none⟩ = some (.int .i64 xw)) ∧
      (X.cell? ⟨qb, 0, none⟩ = some (.int .i64 ya) ∧ X.cell? ⟨qb, 1, none⟩ = some (.slice A' m c') ∧ X.cell? ⟨qb, 2, none⟩ = some (.int .i64 yf) ∧ X.cell? ⟨qb, 3, none⟩ = some (.int .i64 yt) ∧ X.cell? ⟨qb, 4, none⟩ = some (.int .i64 yw))) := by
    intro X h
    have k1 := HP.out.below h hp
    have k2 := HQ.out.below h hq
    exact ⟨⟨k1.cell 0, k1.cell 1, k1.cell 2, k1.cell 3, k1.cell 4⟩, ⟨k2.cell 0, k2.cell 1, k2.cell 2, k2.cell 3, k2.cell 4⟩⟩
  obtain ⟨⟨p0, p1, p2, p3, p4⟩, ⟨q0, q1, q2, q3, q4⟩⟩ := HPQ.out w1 (Below.refl _ _)
  by_cases ha : xa = ya
  · subst ha
    have e1 : (xa != xa) = false := by simp
    go_wp2_with fail
    refine (less_grow7 xf xt yf yt _).mono ?_
    by_cases h1 : wlt ⟨xf, xt⟩ ⟨yf, yt⟩
    · have HF : Hid (r = -1) := by show _ = _; rw [HR.out, if_neg (by simp), if_pos h1]
      rw [decide_eq_true h1]
      rintro e w2 ⟨rfl, hg⟩
      have HG := hide (grow_trans HE.out hg)
      clear hg
      go_wp2_with fail
      go_ret
      rw [HF.out]
      exact ⟨rfl, HG.out⟩
    · rw [decide_eq_false h1]
      rintro e w2 ⟨rfl, hg⟩
      have HG := hide hg
      have HB2 := hide (grow_bel hg)
      clear hg p0 p1 p2 p3 p4 q0 q1 q2 q3 q4
      obtain ⟨⟨p0, p1, p2, p3, p4⟩, ⟨q0, q1, q2, q3, q4⟩⟩ := HPQ.out w2 HB2.out
      have hz2 := HB2.out.size
      have hp2 : pb < w2.heap.size := by omega
      have hq2 : qb < w2.heap.size := by omega
      go_wp2_with fail
      refine (less_grow7 yf yt xf xt _).mono ?_
      by_cases h2 : wlt ⟨yf, yt⟩ ⟨xf, xt⟩
      · have HF : Hid (r = 1) := by show _ = _; rw [HR.out, if_neg (by simp), if_neg h1, if_pos h2]
        rw [decide_eq_true h2]
        rintro e w3 ⟨rfl, hg⟩
        have HG3 := hide (grow_trans (grow_trans HE.out HG.out) hg)
        clear hg
        go_wp2_with fail
        go_ret
        rw [HF.out]
        exact ⟨rfl, HG3.out⟩
      · have HF : Hid (r = orI (cmpB xb yb) (cmpI xw yw)) := by show _ = _; rw [HR.out, if_neg (by simp), if_neg h1, if_neg h2]
        rw [decide_eq_false h2]
        rintro e w3 ⟨rfl, hg⟩
        have HG3 := hide (grow_trans HG.out hg)
        have HB3 := hide (grow_bel HG3.out)
        have HGA := hide (grow_trans HE.out HG3.out)
        clear hg p0 p1 p2 p3 p4 q0 q1 q2 q3 q4 HR h1 h2
        obtain ⟨⟨p0, p1, p2, p3, p4⟩, ⟨q0, q1, q2, q3, q4⟩⟩ := HPQ.out w3 HB3.out
        have hz3 := HB3.out.size
        have hp3 : pb < w3.heap.size := by omega
        have hq3 : qb < w3.heap.size := by omega
        have HXS3 := hide (HXS1.out.below (HB3.out.mono hB1))
        have HYS3 := hide (HYS1.out.below (HB3.out.mono hB1))
        have HCS : Hid (∀ X : World, Below w3.heap.size w3 X → X.cell? ⟨pb, 1, none⟩ = some (.slice A n c) ∧ X.cell? ⟨pb, 4, none⟩ = some (.int .i64 xw) ∧ X.cell? ⟨qb, 1, none⟩ = some (.slice A' m c') ∧ X.cell? ⟨qb, 4, none⟩ = some (.int .i64 yw)) := by
          intro X h
          obtain ⟨⟨_, k1, _, _, k4⟩, ⟨_, k5, _, _, k6⟩⟩ := HPQ.out X (HB3.out.trans (h.mono hz3))
          exact ⟨k1, k4, k5, k6⟩
        go_wp2_with fail
        go_region_held3 (fun w' : World => w'.cell? ⟨pb, 1, none⟩ = some (.slice A n c) ∧ w'.cell? ⟨pb, 4, none⟩ = some (.int .i64 xw) ∧ w'.cell? ⟨qb, 1, none⟩ = some (.slice A' m c') ∧ w'.cell? ⟨qb, 4, none⟩ = some (.int .i64 yw)) (first | exact ⟨p1, p4, q1, q4⟩ | exact HCS.out _ (((Below.refl w3.heap.size w3).drewN 1).alloc (Nat.le_refl _) _)) (first
          | (go_at_call 53; refine (bcompare_any _ _ xb yb n m B B _ HXS3.out.drew HYS3.out.drew HN.out.symm HM.out.symm HX8.out HY8.out).mono ?_; rintro e w7 ⟨rfl, rfl⟩)
          | (go_at_call 50; refine (cmp7 _ _ _).mono ?_; rintro e w7 ⟨rfl, rfl⟩)
          | (go_at_call 52; refine (or_any7 _ (cmpB xb yb) (cmpI xw yw) (w3.heap.size + 1) _ (by have h9 := Sl.of_own (Own.new (n := 2) (sz := 1) (e := nT7) (base := 0) w3.drew #[.int .i64 (cmpB xb yb), .int .i64 (cmpI xw yw)] (by omega) (by omega) rfl); simp at h9; exact h9) (by simp)).mono ?_; rintro e w8 ⟨rfl, rfl⟩))
        all_goals
          rw [← HF.out]
          go_wp2_with fail
          go_ret
          exact ⟨rfl, grow_trans HGA.out (grow_trans (grow_alloc w3 _) (grow_drew _ 1))⟩
  · have HF : Hid (r = cmpI xa ya) := by show _ = _; rw [HR.out, if_pos ha]
    have e1 : (xa != ya) = true := by simp [ha]
    go_wp2_with fail
    refine (cmp7 _ _ _).mono ?_
    rintro e w2 ⟨rfl, rfl⟩
    rw [← HF.out]
    go_wp2_with fail
    go_ret
    exact ⟨rfl, HE.out⟩

end Go.Proofs.Ytogelnljkdcajaa
