/- Ranging over a map keyed by structs. -/
import Derived.Test.YtkobaidamdffmaaMap
import Derived.Maps.RangeWalk
namespace Go.Proofs.Ytkobaidamdffmaa
open Go.RowKit
open Go.ChangeMaps (setBlock)
set_option linter.unusedVariables false
set_option linter.unusedSimpArgs false

theorem range_self {α : Type} (L : List α) : (List.range L.length).filterMap (fun i => L[i]?) = L := by
  have key : ∀ n, n ≤ L.length → (List.range n).filterMap (fun i => L[i]?) = L.take n := by
    intro n
    induction n with
    | zero => intro _; simp
    | succ n ih =>
      intro h
      rw [List.range_succ, List.filterMap_append, ih (by omega), List.take_succ_eq_append_getElem (by omega)]
      simp [List.getElem?_eq_getElem (show n < L.length by omega)]
  rw [key _ (Nat.le_refl _), List.take_length]

section
variable {α β : Type} {K : α → Value} {V : β → Value}
/-- block r is an iterator over the map b with the pairs L; those of D have come -/
def ItR (w : World) (b r : Nat) (K : α → Value) (V : β → Value) (L D : List (α × β)) : Prop :=
  ∃ es clock since seen c0, ∃ I : List Nat, w.heap[b]? = some (.map es clock) ∧ EsR K V es.toList L ∧ (es.toList.map (·.born)).Nodup ∧
    w.heap[r]? = some (.mapIter (some b) since seen c0) ∧ (∀ e ∈ es.toList, e.born < since) ∧ since ≤ c0 ∧ since ≤ clock ∧ I.Nodup ∧ (∀ i ∈ I, i < es.size) ∧ seen.toList = I.map (fun i => (es.toList.map (·.born)).getD i 0) ∧ D = I.filterMap (fun i => L[i]?)
/-- how many are still to come -/
def itLeft (w : World) (b r : Nat) : Nat :=
  match w.heap[b]?, w.heap[r]? with
  | some (.map es _), some (.mapIter _ _ seen _) => es.size - seen.size
  | _, _ => 0
theorem EsR.len {es : List MapEntry} {L : List (α × β)} (h : EsR K V es L) : es.length = L.length := by
  have := congrArg List.length h
  simpa using this
theorem EsR.at_ {es : List MapEntry} {L : List (α × β)} (h : EsR K V es L) {i : Nat} {e : MapEntry} (he : es[i]? = some e) : ∃ p, L[i]? = some p ∧ e.key = K p.1 ∧ e.val = V p.2 := by
  have h1 : (es.map (fun e => (e.key, e.val)))[i]? = (L.map (fun p => (K p.1, V p.2)))[i]? := by rw [h]
  rw [List.getElem?_map, List.getElem?_map, he] at h1
  cases hl : L[i]? with
  | none => rw [hl] at h1; cases h1
  | some p =>
    rw [hl] at h1
    injection h1 with h1
    injection h1 with h2 h3
    exact ⟨p, rfl, h2, h3⟩
theorem filterMap_some {γ δ : Type} (f : γ → Option δ) : ∀ I : List γ, (∀ i ∈ I, (f i).isSome) → (I.filterMap f).length = I.length
  | [], _ => rfl
  | i :: I, h => by
    obtain ⟨x, hx⟩ := Option.isSome_iff_exists.1 (h i List.mem_cons_self)
    rw [List.filterMap_cons_some hx, List.length_cons, List.length_cons, filterMap_some f I (fun j hj => h j (List.mem_cons_of_mem _ hj))]
variable {w w' : World} {b r : Nat} {L D : List (α × β)}
theorem ItR.left_eq (h : ItR w b r K V L D) : itLeft w b r = L.length - D.length := by
  obtain ⟨es, clock, since, seen, c0, I, hb, he, _, hr, _, _, _, _, hI, hs, rfl⟩ := h
  have h1 := he.len
  rw [Array.length_toList] at h1
  unfold itLeft
  rw [hb, hr]
  show es.size - seen.size = _
  have h2 := congrArg List.length hs
  rw [Array.length_toList, List.length_map] at h2
  rw [filterMap_some _ I (fun i hi => by
    have := hI i hi
    rw [List.getElem?_eq_getElem (by omega)]
    rfl)]
  omega
theorem ItR.to (h : ItR w b r K V L D) (e1 : w'.heap[b]? = w.heap[b]?) (e2 : w'.heap[r]? = w.heap[r]?) : ItR w' b r K V L D := by
  obtain ⟨es, clock, since, seen, c0, I, hb, h1, h2, hr, h3⟩ := h
  exact ⟨es, clock, since, seen, c0, I, e1.trans hb, h1, h2, e2.trans hr, h3⟩
theorem ItR.lt (h : ItR w b r K V L D) : b < w.heap.size ∧ r < w.heap.size := by
  obtain ⟨es, clock, since, seen, c0, I, hb, h1, h2, hr, h3⟩ := h
  exact ⟨(Array.getElem?_eq_some_iff.1 hb).1, (Array.getElem?_eq_some_iff.1 hr).1⟩
theorem ItR.fr {S : Nat → Prop} (h : ItR w b r K V L D) (hf : Fr S w w') (h1 : ¬ S b) (h2 : ¬ S r) : ItR w' b r K V L D := h.to (hf.block b h.lt.1 h1) (hf.block r h.lt.2 h2)
theorem ItR.below {B : Nat} (h : ItR w b r K V L D) (hf : Below B w w') (h1 : b < B) (h2 : r < B) : ItR w' b r K V L D := h.to (hf.block b h1) (hf.block r h2)
theorem ItR.sub (h : ItR w b r K V L D) : ∀ p ∈ D, p ∈ L := by
  obtain ⟨es, clock, since, seen, c0, I, hb, h1, h2, hr, h3, h4, h5, h6, h7, h8, rfl⟩ := h
  intro p hp
  obtain ⟨i, _, hi⟩ := List.mem_filterMap.1 hp
  exact List.mem_of_getElem? hi
theorem ItR.map [DecidableEq α] (h : ItR w b r K V L D) (hn : (L.map (·.1)).Nodup) (hc : ∀ es clock, w.heap[b]? = some (.map es clock) → ∀ e ∈ es.toList, e.born < clock) : MapR w b K V L := by
  obtain ⟨es, clock, since, seen, c0, I, hb, h1, h2, hr, h3, h4, h5, h6⟩ := h
  exact ⟨es, clock, hb, h1, hn, hc es clock hb, h2⟩
theorem ItR.ne (h : ItR w b r K V L D) : r ≠ b := by
  obtain ⟨es, clock, since, seen, c0, I, hb, h1, h2, hr, h3⟩ := h
  intro e
  rw [e, hb] at hr
  cases hr
theorem ItR.ne_blk {g t : Nat} {cs : Array Value} (h : ItR w b r K V L D) (k : Blk w g t cs) : b ≠ g ∧ r ≠ g := by
  obtain ⟨es, clock, since, seen, c0, I, hb, h1, h2, hr, h3⟩ := h
  unfold Blk at k
  exact ⟨fun e => (by rw [e, k] at hb; cases hb), fun e => (by rw [e, k] at hr; cases hr)⟩
theorem ItR.ne_map {c : Nat} {γ δ : Type} {K' : γ → Value} {V' : δ → Value} {M : List (γ × δ)} (h : ItR w b r K V L D) (k : MapR w c K' V' M) : r ≠ c := by
  obtain ⟨es, clock, since, seen, c0, I, hb, h1, h2, hr, h3⟩ := h
  obtain ⟨es', clock', hc, _⟩ := k
  intro e
  rw [e, hc] at hr
  cases hr

variable {P : Program} {t k e : TypeId}
theorem MapR.range (h : MapR w b K V L) (ht : P.underlying t = some (.map k e)) :
    ∃ o, (Instr.range t (.map (some b))).run P w = .ok (.pointer (some ⟨w.heap.size, 0, none⟩)) (w.alloc o) ∧ ItR (w.alloc o) b w.heap.size K V L [] := by
  have hlt := h.lt
  obtain ⟨es, clock, hb, he, hn, hlt2, hbn⟩ := h
  exact ⟨_, run_range_map w t k e b es clock ht hb, es, clock, clock, #[], clock, [], (Below.heap_alloc _ _ _ hlt).trans hb, he, hbn, heap_alloc_new w _, hlt2, Nat.le_refl _, Nat.le_refl _, List.nodup_nil, (fun i hi => by cases hi), rfl, rfl⟩
theorem ItR.next (h : ItR w b r K V L D) (ty : TypeId) :
    (L.Perm D ∧ (Instr.next (.pointer (some ⟨r, 0, none⟩)) false ty).run P w = .ok (.tuple #[.bool false]) w) ∨
    ∃ p w', p ∈ L ∧ (Instr.next (.pointer (some ⟨r, 0, none⟩)) false ty).run P w = .ok (.tuple #[.bool true, K p.1, V p.2]) w' ∧ ItR w' b r K V L (D ++ [p]) ∧ D.length < L.length ∧ Fr (fun j => j = r) w w' ∧ w'.heap.size = w.heap.size ∧
      (Instr.entry (.pointer (some ⟨r, 0, none⟩))).run P w' = .ok (.tuple #[K p.1, V p.2]) w' := by
  have hne := h.ne
  obtain ⟨es, clock, since, seen, c0, I, hb, he, hbn, hr, hold, hsc, hsk, hI, hIs, hs, rfl⟩ := h
  have hln := he.len
  rw [Array.length_toList] at hln
  have hbo : ∀ i, i < es.size → ∃ en, es.toList[i]? = some en ∧ (es.toList.map (·.born)).getD i 0 = en.born := by
    intro i hi
    refine ⟨es[i], by simp [hi], ?_⟩
    simp [List.getD_eq_getElem?_getD, hi]
  have hseen : ∀ i, i < es.size → (seen.contains ((es.toList.map (·.born)).getD i 0) = true ↔ i ∈ I) := by
    intro i hi
    rw [← Array.contains_toList, List.contains_iff_mem, hs, List.mem_map]
    constructor
    · rintro ⟨j, hj, e9⟩
      have hj2 := hIs j hj
      have e8 : (es.toList.map (·.born))[j]'(by simpa using hj2) = (es.toList.map (·.born))[i]'(by simpa using hi) := by
        rw [List.getD_eq_getElem?_getD, List.getD_eq_getElem?_getD, List.getElem?_eq_getElem (by simpa using hj2), List.getElem?_eq_getElem (by simpa using hi)] at e9
        exact e9
      have := (List.getElem_inj hbn).1 e8
      rw [← this]
      exact hj
    · exact fun h9 => ⟨i, h9, rfl⟩
  have hDl : (I.filterMap fun i => L[i]?).length = I.length := filterMap_some _ I (fun i hi => by
    have := hIs i hi
    rw [List.getElem?_eq_getElem (by omega)]
    rfl)
  rcases run_next_at (P := P) w ty r b since c0 seen es clock hr hb hold hsc with ⟨h0, hrun⟩ | ⟨en, hen, w1, hal, hrun⟩
  · refine .inl ⟨?_, hrun⟩
    have hall : ∀ i, i ∈ I ↔ i ∈ List.range es.size := by
      intro i
      rw [List.mem_range]
      constructor
      · exact hIs i
      · intro hi
        obtain ⟨x, hx, hxb⟩ := hbo i hi
        have h9 := all_seen es seen h0 x (List.mem_of_getElem? hx)
        rw [← hxb] at h9
        exact (hseen i hi).1 h9
    have hp : I.Perm (List.range es.size) := (List.perm_ext_iff_of_nodup hI List.nodup_range).2 hall
    have h8 := hp.filterMap (fun i => L[i]?)
    rw [hln, range_self] at h8
    exact h8.symm
  · obtain ⟨hem, hes⟩ := mem_left hen
    obtain ⟨i, hi⟩ := List.getElem?_of_mem hem
    have hil : i < es.size := by
      have := (List.getElem?_eq_some_iff.1 hi).1
      simpa using this
    obtain ⟨p, hp, hk, hv⟩ := he.at_ hi
    obtain ⟨x, hx, hxb⟩ := hbo i hil
    rw [hi] at hx
    injection hx with hx
    subst hx
    have hiI : i ∉ I := fun h9 => by
      have h8 := (hseen i hil).2 h9
      rw [hxb, hes] at h8
      cases h8
    have hr1 : w1.heap[r]? = some (.mapIter (some b) since seen c0) := by rcases hal with rfl | rfl <;> exact hr
    have hb1 : w1.heap[b]? = some (.map es clock) := by rcases hal with rfl | rfl <;> exact hb
    have hset := MapKept.heap_set (o' := .mapIter (some b) since (seen.push en.born) clock) hr1
    have hb' : (setBlock w1 r (.mapIter (some b) since (seen.push en.born) clock)).heap[b]? = some (.map es clock) := (hset.2 b (fun e1 => hne e1.symm)).trans hb1
    refine .inr ⟨p, _, List.mem_of_getElem? hp, by rw [← hk, ← hv]; exact hrun, ?_, ?_, ?_, ?_, ?_⟩
    · refine ⟨es, clock, since, seen.push en.born, clock, I ++ [i], hb', he, hbn, hset.1, hold, hsk, hsk, ?_, ?_, ?_, ?_⟩
      · rw [List.nodup_append]
        refine ⟨hI, by simp, ?_⟩
        rintro a ha c hc rfl
        exact hiI (by rw [List.mem_singleton] at hc; rw [← hc]; exact ha)
      · intro j hj
        rcases List.mem_append.1 hj with h9 | h9
        · exact hIs j h9
        · rw [List.mem_singleton.1 h9]; exact hil
      · rw [Array.toList_push, hs, List.map_append, List.map_singleton, hxb]
      · rw [List.filterMap_append]
        simp [hp]
    · rw [hDl]
      have h9 : I.length < (List.range es.size).length := by
        have hsub : (i :: I).Nodup := List.nodup_cons.2 ⟨hiI, hI⟩
        have h8 := hsub.length_le_of_subset (l₂ := List.range es.size) (fun j hj => by
          rw [List.mem_range]
          rcases List.mem_cons.1 hj with rfl | h7
          · exact hil
          · exact hIs j h7)
        rw [List.length_cons] at h8
        omega
      rw [List.length_range] at h9
      omega
    · rcases hal with rfl | rfl <;> exact ⟨rfl, rfl, rfl, by simp [setBlock], fun j _ hj => hset.2 j (fun e1 => hj e1)⟩
    · rcases hal with rfl | rfl <;> simp [setBlock]
    · rw [← hk, ← hv]
      exact run_entry_at _ r b since seen es clock en hset.1 hb' hem hbn

variable {ops : Array Oper} {rest : List Oper} {o : Oper} {a : Act} {Q : Exit → Act → World → Prop}
/-- the walk's laws -/
theorem wpList_range_it (hg : o.guard = none) (m : Operand) (hop : o.op = Op.range t m) (ht : P.underlying t = some (.map k e)) (hm : a.eval m = .map (some b)) (h : MapR w b K V L)
    (hK : ∀ ob, ItR (w.alloc ob) b w.heap.size K V L [] → wpList P ops Q rest (a.put o.dst (.pointer (some ⟨w.heap.size, 0, none⟩))) (w.alloc ob)) : wpList P ops Q (o :: rest) a w := by
  refine wpList_plain hg fun K' hK' => ?_
  obtain ⟨ob, hrun, hi⟩ := h.range ht
  unfold Oper.wp
  simp [execOp, hop, hm, hrun, Result.andThen]
  exact hK' _ _ (hK ob hi)
theorem wpList_next_it (hg : o.guard = none) (it : Operand) (hop : o.op = Op.next it false) (hit : a.eval it = .pointer (some ⟨r, 0, none⟩)) (h : ItR w b r K V L D)
    (hDone : L.Perm D → wpList P ops Q rest (a.put o.dst (.tuple #[.bool false])) w)
    (hMore : ∀ p w', p ∈ L → ItR w' b r K V L (D ++ [p]) → D.length < L.length → Fr (fun j => j = r) w w' → w'.heap.size = w.heap.size → (Instr.entry (.pointer (some ⟨r, 0, none⟩))).run P w' = .ok (.tuple #[K p.1, V p.2]) w' →
      wpList P ops Q rest (a.put o.dst (.tuple #[.bool true, K p.1, V p.2])) w') : wpList P ops Q (o :: rest) a w := by
  refine wpList_plain hg fun K' hK' => ?_
  unfold Oper.wp
  rcases h.next (P := P) o.type with ⟨h0, hrun⟩ | ⟨p, w', hp, hrun, hi, hlt, hf, hsz, hen⟩
  · simp [execOp, hop, hit, hrun, Result.andThen]
    exact hK' _ _ (hDone h0)
  · simp [execOp, hop, hit, hrun, Result.andThen]
    exact hK' _ _ (hMore p w' hp hi hlt hf hsz hen)
/-- an entry has come -/
def ItStep (P : Program) (w : World) (b r : Nat) (K : α → Value) (V : β → Value) (L D : List (α × β)) (w' : World) (kv vv : Value) : Prop :=
  ∃ p, kv = K p.1 ∧ vv = V p.2 ∧ p ∈ L ∧ ItR w' b r K V L (D ++ [p]) ∧ D.length < L.length ∧ Fr (fun j => j = r) w w' ∧ w'.heap.size = w.heap.size ∧ (Instr.entry (.pointer (some ⟨r, 0, none⟩))).run P w' = .ok (.tuple #[kv, vv]) w'
/-- the same, key and value under names -/
theorem wpList_next_it' (hg : o.guard = none) (it : Operand) (hop : o.op = Op.next it false) (hit : a.eval it = .pointer (some ⟨r, 0, none⟩)) (h : ItR w b r K V L D)
    (hDone : L.Perm D → wpList P ops Q rest (a.put o.dst (.tuple #[.bool false])) w)
    (hMore : ∀ w' kv vv, ItStep P w b r K V L D w' kv vv → wpList P ops Q rest (a.put o.dst (.tuple #[.bool true, kv, vv])) w') : wpList P ops Q (o :: rest) a w :=
  wpList_next_it hg it hop hit h hDone (fun p w' h1 h2 h3 h4 h5 h6 => hMore w' _ _ ⟨p, rfl, rfl, h1, h2, h3, h4, h5, h6⟩)
end

end Go.Proofs.Ytkobaidamdffmaa
