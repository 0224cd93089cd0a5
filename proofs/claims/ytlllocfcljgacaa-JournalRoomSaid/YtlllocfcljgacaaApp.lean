/- append onto a slice of the call's own, whatever the source is. -/
import Derived.Test.YtlllocfcljgacaaLib
import Derived.Maps.AppendAt
import Derived.Deep.RegionLaw
namespace Go.Proofs.Ytlllocfcljgacaa
open Go.RowKit
set_option linter.unusedVariables false
set_option linter.unusedSimpArgs false

/-- t is the type of slices of e, whose elements take sz cells and by bytes and begin as z. -/
structure SlTy (P : Program) (t e sz by_ : Nat) (z : Value) : Prop where
  ht : P.underlying t = some (.slice e)
  hi : ∃ i, P.info? e = some i ∧ i.zero = some z ∧ i.size = sz ∧ i.bytes = by_
  hz : z.cells.size = sz
  hs : 0 < sz

/-- the slice v, made by the call behind block base, with n elements, their cells xs -/
def Own (w : World) (base e sz : Nat) (v : Value) (n : Nat) (xs : List Value) : Prop := w.ownsRow base e sz v n xs

section
variable {w w' : World} {base e sz n : Nat} {v : Value} {xs : List Value}
theorem Own.sl (h : Own w base e sz v n xs) : Sl w w.heap.size v sz n xs := Sl.of_own h
theorem Own.nil (w : World) (base e sz : Nat) : Own w base e sz (.slice none 0 0) 0 [] := World.ownsRow_nil w base e sz
theorem Own.to (h : Own w base e sz v n xs) (hk : ∀ g, v.ownBlock = some g → w'.heap[g]? = w.heap[g]?) : Own w' base e sz v n xs := by
  refine ⟨h.1, ?_⟩
  rcases h.2 with h2 | ⟨g, cap, cur, rfl, hb, hg, rest⟩
  · exact .inl h2
  · exact .inr ⟨g, cap, cur, rfl, hb, (hk g rfl).trans hg, rest⟩
theorem Own.lt (h : Own w base e sz v n xs) : ∀ g, v.ownBlock = some g → base ≤ g ∧ g < w.heap.size := World.ownsRow.lt h
theorem Own.below (h : Own w base e sz v n xs) (hb : Below w.heap.size w w') : Own w' base e sz v n xs := h.to fun g hg => hb.block g (h.lt g hg).2
theorem Own.alloc (h : Own w base e sz v n xs) (o : Obj) : Own (w.alloc o) base e sz v n xs := h.below ((Below.refl _ _).alloc (Nat.le_refl _) o)
theorem Own.drew (h : Own w base e sz v n xs) : Own w.drew base e sz v n xs := h
theorem Own.drewN (h : Own w base e sz v n xs) (m : Nat) : Own (w.drewN m) base e sz v n xs := h
theorem Own.fr {S : Nat → Prop} (h : Own w base e sz v n xs) (hf : Fr S w w') (hs : ∀ g, v.ownBlock = some g → ¬ S g) : Own w' base e sz v n xs := h.to fun g hg => hf.block g (h.lt g hg).2 (hs g hg)
theorem Own.typed (h : Own w base e sz v n xs) : ∀ g, v.ownBlock = some g → ∃ cs, Blk w g e cs := by
  intro g hg
  rcases h.2 with ⟨rfl, _⟩ | ⟨g', cap, cur, rfl, _, hh, _⟩
  · simp [Value.ownBlock] at hg
  · simp [Value.ownBlock] at hg
    subst hg
    exact ⟨cur, hh⟩
/-- a row lies in another block than a block of another type -/
theorem Own.ne {g t : Nat} {cs : Array Value} (h : Own w base e sz v n xs) (hb : Blk w g t cs) (hne : e ≠ t) : v.ownBlock ≠ some g := by
  intro he
  obtain ⟨cs', hc⟩ := h.typed g he
  exact (hc.apart hb hne) rfl
theorem Own.put (h : Own w base e sz v n xs) {p : Addr} (hp : v.ownBlock ≠ some p.block) (u : Value) : Own (w.setCell p u) base e sz v n xs :=
  h.to fun g hg => Below.heap_setCell w p u g (by rintro rfl; exact hp hg)
theorem Own.lower {base' : Nat} (h : Own w base e sz v n xs) (hb : base' ≤ base) : Own w base' e sz v n xs := by
  refine ⟨h.1, ?_⟩
  rcases h.2 with h2 | ⟨g, cap, cur, rfl, hb', rest⟩
  · exact .inl h2
  · exact .inr ⟨g, cap, cur, rfl, by omega, rest⟩
theorem Own.len (h : Own w base e sz v n xs) : xs.length = n * sz := h.1
/-- an empty literal, or any block made whole -/
theorem Own.new (w : World) (base : Nat) (cur : Array Value) (hb : base ≤ w.heap.size) (hm : n ≤ 9223372036854775807) (hs : cur.size = n * sz) : Own (w.alloc (.cells cur e)) base e sz (.slice (some ⟨w.heap.size, 0, none⟩) n n) n cur.toList := by
  refine ⟨by simpa using hs, .inr ⟨w.heap.size, n, cur, rfl, hb, heap_alloc_new w _, Nat.le_refl _, by unfold maxLen; omega, hs, ?_⟩⟩
  rw [List.take_of_length_le (by simp; omega)]
end

/-- what append leaves -/
structure App (w : World) (base e sz : Nat) (v : Value) (n : Nat) (xs : List Value) (v' : Value) (w' : World) : Prop where
  own : Own w' base e sz v' n xs
  fr : Fr (fun k => v.ownBlock = some k) w w'
  at_ : v'.ownBlock = v.ownBlock ∨ v'.ownBlock = some w.heap.size

section
variable {P : Program} {w : World} {t e sz by_ : Nat} {z : Value}

theorem run_app (T : SlTy P t e sz by_ z) (ty base : Nat) {v x : Value} {n m B : Nat} {xs news : List Value} (hv : Own w base e sz v n xs) (hx : Sl w B x sz m news) (h1 : ∀ u ∈ news, u.oneCell' = true)
    (hm : n + m ≤ 9223372036854775807) (hbytes : (n + m) * by_ ≤ 140737488355328) (hbase : base ≤ w.heap.size) :
    ∃ v' w', (Builtin.append_ #[t, t] ty #[v, x]).run P w = .ok v' w' ∧ App w base e sz v (n + m) (xs ++ news) v' w' := by
  obtain ⟨i, hi, hz, hsz, hb⟩ := T.hi
  obtain ⟨hl, A, c, rfl, hmc, hc, hx⟩ := hx
  by_cases hm0 : m = 0
  · subst hm0
    have hn : news = [] := List.eq_nil_of_length_eq_zero (by simpa using hl)
    subst hn
    rcases A with _ | ad
    · have hrun : (Builtin.append_ #[t, t] ty #[v, .slice none 0 c]).run P w = .ok v w := by
        rcases hv.2 with ⟨rfl, rfl⟩ | ⟨g, cap, cur, rfl, _, _, hnc, _⟩
        · simp [Builtin.append_, run_underlying T.ht, sizeOf, typeInfo, hi, Builtin.lenOf, Builtin.firstCells]
        · simp [Builtin.append_, run_underlying T.ht, sizeOf, typeInfo, hi, Builtin.lenOf, Builtin.firstCells, hnc, storeCells]
      exact ⟨v, w, hrun, by simpa using hv, Fr.refl _ _, .inl rfl⟩
    · obtain ⟨v', w', hr, h2, h3, _, h5⟩ := run_append_own_at (P := P) w base t ty e i z sz by_ T.ht hi hz hsz hb T.hz T.hs v n xs hv ad 0 c [] (by simp) (by simp) (by simp) (by unfold maxLen; omega) hbytes hbase
      exact ⟨v', w', hr, h2, ⟨h3.os, h3.tape, h3.output, h3.size, fun k hk hne => h3.block k hk (fun e => hne e.symm)⟩, h5⟩
  · obtain ⟨ad, rfl, _, hh⟩ := hx (by omega)
    obtain ⟨v', w', hr, h2, h3, _, h5⟩ := run_append_own_at (P := P) w base t ty e i z sz by_ T.ht hi hz hsz hb T.hz T.hs v n xs hv ad m c news hl hh h1 (by unfold maxLen; omega) hbytes hbase
    exact ⟨v', w', hr, h2, ⟨h3.os, h3.tape, h3.output, h3.size, fun k hk hne => h3.block k hk (fun e => hne e.symm)⟩, h5⟩

variable {ops : Array Oper} {o : Oper} {a : Act} {Q : Exit → Act → World → Prop}
theorem wp_app {K : Act → World → Prop} (T : SlTy P t e sz by_ z) (s x : Operand) (ho : o.op = .call { callee := .builtin .append, args := #[s, x], argTypes := #[t, t] })
    (base : Nat) {v xv : Value} {n m B : Nat} {xs news : List Value} (hs : a.eval s = v) (hxv : a.eval x = xv) (hv : Own w base e sz v n xs) (hx : Sl w B xv sz m news) (h1 : ∀ u ∈ news, u.oneCell' = true)
    (hm : n + m ≤ 9223372036854775807) (hbytes : (n + m) * by_ ≤ 140737488355328) (hbase : base ≤ w.heap.size)
    (h : ∀ v' w', App w base e sz v (n + m) (xs ++ news) v' w' → K (a.put o.dst v') w') : o.wp P a w K Q := by
  obtain ⟨v', w', hr, h2⟩ := run_app T o.type base hv hx h1 hm hbytes hbase
  unfold Oper.wp execOp
  simp only [ho, resolve, invoke, builtin, Sem.run_bind, Sem.run_pure, Result.andThen_ok, List.map_toArray, List.map_cons, List.map_nil, hs, hxv, hr]
  exact h v' w' h2
/-- the walk's law at an append -/
theorem wpList_app {rest : List Oper} (hgd : o.guard = none) (T : SlTy P t e sz by_ z) (s x : Operand) (ho : o.op = .call { callee := .builtin .append, args := #[s, x], argTypes := #[t, t] })
    (base : Nat) {v xv : Value} {n m B : Nat} {xs news : List Value} (hs : a.eval s = v) (hxv : a.eval x = xv) (hv : Own w base e sz v n xs) (hx : Sl w B xv sz m news) (h1 : ∀ u ∈ news, u.oneCell' = true)
    (hm : n + m ≤ 9223372036854775807) (hbytes : (n + m) * by_ ≤ 140737488355328) (hbase : base ≤ w.heap.size)
    (h : ∀ v' w', App w base e sz v (n + m) (xs ++ news) v' w' → wpList P ops Q rest (a.put o.dst v') w') : wpList P ops Q (o :: rest) a w :=
  wpList_plain hgd fun _ hK => wp_app T s x ho base hs hxv hv hx h1 hm hbytes hbase fun v' w' h2 => hK _ _ (h v' w' h2)
/-- as a step of a region that draws its order -/
theorem step_app {K : Act → World → Prop} {E : Prop} (hgd : o.guard = none) (T : SlTy P t e sz by_ z) (s x : Operand) (ho : o.op = .call { callee := .builtin .append, args := #[s, x], argTypes := #[t, t] })
    (base : Nat) {v xv : Value} {n m B : Nat} {xs news : List Value} (hs : a.eval s = v) (hxv : a.eval x = xv) (hv : Own w base e sz v n xs) (hx : Sl w B xv sz m news) (h1 : ∀ u ∈ news, u.oneCell' = true)
    (hm : n + m ≤ 9223372036854775807) (hbytes : (n + m) * by_ ≤ 140737488355328) (hbase : base ≤ w.heap.size)
    (h : ∀ v' w', App w base e sz v (n + m) (xs ++ news) v' w' → K (a.put o.dst v') w') : if Region.wanted o (yielded ops a.tmps) = true then Oper.wp P o a w K Q else E := by
  have hw : Region.wanted o (yielded ops a.tmps) = true := by simp [Region.wanted, hgd]
  rw [if_pos hw]
  exact wp_app T s x ho base hs hxv hv hx h1 hm hbytes hbase h
end

end Go.Proofs.Ytlllocfcljgacaa
