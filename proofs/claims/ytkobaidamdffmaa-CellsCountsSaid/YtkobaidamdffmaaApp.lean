/- append onto a slice of the call's own, whatever the source is. -/
import Derived.Test.YtkobaidamdffmaaLib
import Derived.Maps.AppendAt
import Derived.Deep.RegionLaw
namespace Go.Proofs.Ytkobaidamdffmaa
open Go.RowKit
set_option linter.unusedVariables false
set_option linter.unusedSimpArgs false

/-- t is the type of slices of e, whose elements take sz cells and by bytes and begin as z. -/
structure SlTy (P : Program) (t e sz by_ : Nat) (z : Value) : Prop where
  ht : P.underlying t = some (.slice e)
  hi : ∃ i, P.info? e = some i ∧ i.zero = some z ∧ i.size = sz ∧ i.bytes = by_
  hz : z.cells.size = sz
  hs : 0 < sz

/-- the slice v, made by the call behind block base, with n elements, their cells xs (its block may have more cells than its capacity says: a cut) -/
def Own (w : World) (base e sz : Nat) (v : Value) (n : Nat) (xs : List Value) : Prop :=
  xs.length = n * sz ∧
  ((v = .slice none 0 0 ∧ n = 0) ∨
   ∃ g cap cur, v = .slice (some ⟨g, 0, none⟩) n cap ∧ base ≤ g ∧ w.heap[g]? = some (.cells cur e (0, 0)) ∧ n ≤ cap ∧ cap ≤ maxLen ∧ cap * sz ≤ cur.size ∧ cur.toList.take (n * sz) = xs)
theorem Own.of_row {w : World} {base e sz n : Nat} {v : Value} {xs : List Value} (h : w.ownsRow base e sz v n xs) : Own w base e sz v n xs := by
  refine ⟨h.1, ?_⟩
  rcases h.2 with h2 | ⟨g, cap, cur, rfl, h1, h2, h3, h4, h5, h6⟩
  · exact .inl h2
  · exact .inr ⟨g, cap, cur, rfl, h1, h2, h3, h4, Nat.le_of_eq h5.symm, h6⟩
theorem Own.cells {w : World} {base e sz n : Nat} {v : Value} {xs : List Value} (h : Own w base e sz v n xs) {g : Nat} (hg : v.ownBlock = some g) : ∀ j u, xs[j]? = some u → w.cell? ((⟨g, 0, none⟩ : Addr).add j) = some u := by
  rcases h.2 with ⟨rfl, _⟩ | ⟨g', cap, cur, rfl, _, hh, _, _, _, hx⟩
  · cases hg
  · obtain rfl : g' = g := by simpa [Value.ownBlock] using hg
    intro j u hj
    rw [← hx, List.getElem?_take] at hj
    split at hj
    · have hadd : (⟨g', 0, none⟩ : Addr).add j = ⟨g', j, none⟩ := by unfold Addr.add; split <;> simp_all
      rw [hadd, cell_of_row w g' j cur e (0, 0) hh]
      simpa using hj
    · cases hj
theorem Sl.of_own {w : World} {base e sz n : Nat} {v : Value} {cs : List Value} (h : Own w base e sz v n cs) : Sl w w.heap.size v sz n cs := by
  refine ⟨h.1, ?_⟩
  rcases h.2 with ⟨rfl, rfl⟩ | ⟨g, cap, cur, rfl, hb, hg, hc, hm, _⟩
  · exact ⟨none, 0, rfl, by omega, by omega, by omega⟩
  · refine ⟨_, cap, rfl, hc, by unfold maxLen at hm; omega, fun _ => ⟨_, rfl, ?_, fun j u hu => h.cells (g := g) rfl j u hu⟩⟩
    exact (Array.getElem?_eq_some_iff.1 hg).1

section
variable {w w' : World} {base e sz n : Nat} {v : Value} {xs : List Value}
theorem Own.sl (h : Own w base e sz v n xs) : Sl w w.heap.size v sz n xs := Sl.of_own h
theorem Own.nil (w : World) (base e sz : Nat) : Own w base e sz (.slice none 0 0) 0 [] := Own.of_row (World.ownsRow_nil w base e sz)
theorem Own.to (h : Own w base e sz v n xs) (hk : ∀ g, v.ownBlock = some g → w'.heap[g]? = w.heap[g]?) : Own w' base e sz v n xs := by
  refine ⟨h.1, ?_⟩
  rcases h.2 with h2 | ⟨g, cap, cur, rfl, hb, hg, rest⟩
  · exact .inl h2
  · exact .inr ⟨g, cap, cur, rfl, hb, (hk g rfl).trans hg, rest⟩
theorem Own.lt (h : Own w base e sz v n xs) : ∀ g, v.ownBlock = some g → base ≤ g ∧ g < w.heap.size := by
  intro k hk
  rcases h.2 with ⟨rfl, _⟩ | ⟨g, cap, cur, rfl, hb, hg, _⟩
  · cases hk
  · obtain rfl : g = k := by simpa [Value.ownBlock] using hk
    exact ⟨hb, (Array.getElem?_eq_some_iff.1 hg).1⟩
theorem Own.below (h : Own w base e sz v n xs) (hb : Below w.heap.size w w') : Own w' base e sz v n xs := h.to fun g hg => hb.block g (h.lt g hg).2
theorem Own.alloc (h : Own w base e sz v n xs) (o : Obj) : Own (w.alloc o) base e sz v n xs := h.below ((Below.refl _ _).alloc (Nat.le_refl _) o)
theorem Own.drew (h : Own w base e sz v n xs) : Own w.drew base e sz v n xs := h
theorem Own.drewN (h : Own w base e sz v n xs) (m : Nat) : Own (w.drewN m) base e sz v n xs := h
theorem Own.fr {S : Nat → Prop} (h : Own w base e sz v n xs) (hf : Fr S w w') (hs : ∀ g, v.ownBlock = some g → ¬ S g) : Own w' base e sz v n xs := h.to fun g hg => hf.block g (h.lt g hg).2 (hs g hg)
theorem Own.typed (h : Own w base e sz v n xs) : ∀ g, v.ownBlock = some g → ∃ cs, Blk w g e cs := by
  intro g hg
  rcases h.2 with ⟨rfl, _⟩ | ⟨g', cap, cur, rfl, _, hh, _⟩
  · simp [Value.ownBlock] at hg
  · simp [Value.ownBlock] at hg
    subst hg
    exact ⟨cur, hh⟩
/-- a row lies in another block than a block of another type -/
theorem Own.ne {g t : Nat} {cs : Array Value} (h : Own w base e sz v n xs) (hb : Blk w g t cs) (hne : e ≠ t) : v.ownBlock ≠ some g := by
  intro he
  obtain ⟨cs', hc⟩ := h.typed g he
  exact (hc.apart hb hne) rfl
theorem Own.put (h : Own w base e sz v n xs) {p : Addr} (hp : v.ownBlock ≠ some p.block) (u : Value) : Own (w.setCell p u) base e sz v n xs :=
  h.to fun g hg => Below.heap_setCell w p u g (by rintro rfl; exact hp hg)
theorem Own.lower {base' : Nat} (h : Own w base e sz v n xs) (hb : base' ≤ base) : Own w base' e sz v n xs := by
  refine ⟨h.1, ?_⟩
  rcases h.2 with h2 | ⟨g, cap, cur, rfl, hb', rest⟩
  · exact .inl h2
  · exact .inr ⟨g, cap, cur, rfl, by omega, rest⟩
theorem Own.len (h : Own w base e sz v n xs) : xs.length = n * sz := h.1
/-- an empty literal, or any block made whole -/
theorem Own.new (w : World) (base : Nat) (cur : Array Value) (hb : base ≤ w.heap.size) (hm : n ≤ 9223372036854775807) (hs : cur.size = n * sz) : Own (w.alloc (.cells cur e)) base e sz (.slice (some ⟨w.heap.size, 0, none⟩) n n) n cur.toList := by
  refine ⟨by simpa using hs, .inr ⟨w.heap.size, n, cur, rfl, hb, heap_alloc_new w _, Nat.le_refl _, by unfold maxLen; omega, Nat.le_of_eq hs.symm, ?_⟩⟩
  rw [List.take_of_length_le (by simp; omega)]
end

/-- a part from the beginning, with a smaller capacity -/
theorem Own.cut {w : World} {base e sz n c k d : Nat} {A : Option Addr} {xs : List Value} (h : Own w base e sz (.slice A n c) n xs) (hk : k ≤ n) (hd : k ≤ d) (hc : d ≤ c) : Own w base e sz (.slice A k d) k (xs.take (k * sz)) := by
  have hl : k * sz ≤ n * sz := Nat.mul_le_mul_right _ hk
  refine ⟨by rw [List.length_take, h.1]; omega, ?_⟩
  rcases h.2 with ⟨h1, rfl⟩ | ⟨g, cap, cur, h1, h2, h3, h4, h5, h6, h7⟩
  · injection h1 with h1 _ h8
    subst h1
    subst h8
    obtain rfl : k = 0 := by omega
    obtain rfl : d = 0 := by omega
    exact .inl ⟨rfl, rfl⟩
  · injection h1 with h1 _ h8
    subst h1
    subst h8
    refine .inr ⟨g, d, cur, rfl, h2, h3, hd, by omega, Nat.le_trans (Nat.mul_le_mul_right _ hc) h6, ?_⟩
    rw [← h7, List.take_take]
    congr 1
    omega

/-- what append leaves -/
structure App (w : World) (base e sz : Nat) (v : Value) (n : Nat) (xs : List Value) (v' : Value) (w' : World) : Prop where
  own : Own w' base e sz v' n xs
  fr : Fr (fun k => v.ownBlock = some k) w w'
  at_ : v'.ownBlock = v.ownBlock ∨ v'.ownBlock = some w.heap.size

section
variable {P : Program} {w : World} {t e sz by_ : Nat} {z : Value}

theorem run_app (T : SlTy P t e sz by_ z) (ty base : Nat) {v x : Value} {n m B : Nat} {xs news : List Value} (hv : Own w base e sz v n xs) (hx : Sl w B x sz m news) (h1 : ∀ u ∈ news, u.oneCell' = true)
    (hm : n + m ≤ 9223372036854775807) (hbytes : (n + m) * by_ ≤ 140737488355328) (hbase : base ≤ w.heap.size) :
    ∃ v' w', (Builtin.append_ #[t, t] ty #[v, x]).run P w = .ok v' w' ∧ App w base e sz v (n + m) (xs ++ news) v' w' := by
  obtain ⟨i, hi, hz, hsz, hb⟩ := T.hi
  obtain ⟨hl, A, c, rfl, hmc, hc, hx⟩ := hx
  subst hsz
  subst hb
  have hlen : (xs ++ news).length = (n + m) * i.size := by rw [List.length_append, hv.1, hl, Nat.add_mul]
  have hns : ∀ ad : Addr, A = some ad → ∀ j u, news[j]? = some u → w.cell? (ad.add j) = some u := by
    intro ad hA j u hu
    by_cases hm0 : m = 0
    · have hn : news = [] := List.eq_nil_of_length_eq_zero (by rw [hl, hm0, Nat.zero_mul])
      rw [hn] at hu
      cases hu
    · obtain ⟨ad', h8, _, hh⟩ := hx (by omega)
      rw [hA] at h8
      injection h8 with h8
      subst h8
      exact hh j u hu
  have grown : ∀ (old : Nat), old < n + m → ∀ (S : Nat → Prop),
      Own (w.drew.alloc (.cells (xs.toArray ++ news.toArray ++ Builtin.zeroCells z.cells (grownCap w (n + m) old e - (n + m))) e)) base e i.size
        (.slice (some ⟨w.heap.size, 0, none⟩) (n + m) (grownCap w (n + m) old e)) (n + m) (xs ++ news) ∧
      Fr S w (w.drew.alloc (.cells (xs.toArray ++ news.toArray ++ Builtin.zeroCells z.cells (grownCap w (n + m) old e - (n + m))) e)) := by
    intro old ho S
    have hge := grownCap_ge w (n + m) old e
    have hcm : grownCap w (n + m) old e ≤ maxLen := grownCap_le_maxLen w (n + m) old e (by unfold maxLen; omega)
    refine ⟨⟨hlen, .inr ⟨w.heap.size, _, _, rfl, hbase, heap_alloc_new w.drew _, hge, hcm, ?_, ?_⟩⟩, (Fr.refl S w).drew.alloc _⟩
    · simp only [Array.size_append, List.size_toArray, size_zeroCells, T.hz, hv.1, hl, ← Nat.add_mul]
      refine Nat.mul_le_mul_right _ ?_
      omega
    · simp only [Array.toList_append, List.append_assoc]
      rw [← List.append_assoc, ← hlen]
      exact List.take_left
  by_cases hm0 : m = 0
  · subst hm0
    have hn : news = [] := List.eq_nil_of_length_eq_zero (by rw [hl, Nat.zero_mul])
    subst hn
    have hrun : (Builtin.append_ #[t, t] ty #[v, .slice A 0 c]).run P w = .ok v w := by
      rcases hv.2 with ⟨rfl, rfl⟩ | ⟨g, cap, cur, rfl, _, _, hnc, _⟩ <;> cases A <;>
        simp [Builtin.append_, run_underlying T.ht, sizeOf, typeInfo, hi, Builtin.lenOf, Builtin.firstCells, loadCells, loadCellsFrom, storeCells, *]
    exact ⟨v, w, hrun, by simpa using hv, Fr.refl _ _, .inl rfl⟩
  · obtain ⟨ad, rfl, _, hh⟩ := hx (by omega)
    have hnews := hns ad rfl
    rcases hv.2 with ⟨rfl, rfl⟩ | ⟨g, cap, cur, rfl, hbg, hg, hnc, hcm, hcs, htake⟩
    · have hx0 : xs = [] := List.eq_nil_of_length_eq_zero (by simpa using hv.1)
      subst hx0
      have hr := run_append_nil (P := P) w t ty e i z T.ht hi hz ad m c news hl hnews (by omega) (by omega) (by have hb := hbytes; simp only [Nat.zero_add] at hb; omega)
      have hgr := grown 0 (by omega) (fun k => (Value.slice none 0 0).ownBlock = some k)
      simp only [Nat.zero_add, List.nil_append, Array.empty_append] at hgr ⊢
      exact ⟨_, _, hr, hgr.1, hgr.2, Or.inr rfl⟩
    · by_cases hroom : n + m ≤ cap
      · have hfit : n * i.size + news.length ≤ cur.size := by
          rw [hl, ← Nat.add_mul]
          exact Nat.le_trans (Nat.mul_le_mul_right _ hroom) hcs
        have hr := run_append_room (P := P) w t ty e i T.ht hi g n cap cur hg ad m c news hl hnews h1 hroom hfit
        refine ⟨_, _, hr, ⟨hlen, .inr ⟨g, cap, _, rfl, hbg, setRow_heap w g cur _ e _ hg, hroom, hcm, ?_, ?_⟩⟩, ⟨rfl, rfl, rfl, by simp, fun k _ hk => setRow_other w g k _ (fun e => hk (by simp [Value.ownBlock, e]))⟩, Or.inl rfl⟩
        · simp only [List.size_toArray, List.length_append, List.length_take, List.length_drop, Array.length_toList]
          omega
        · rw [htake, ← hlen]
          exact List.take_left
      · have holds : ∀ j u, xs[j]? = some u → w.cell? ((⟨g, 0, none⟩ : Addr).add j) = some u := hv.cells (g := g) rfl
        have hr := run_append_grow (P := P) w t ty e i z T.ht hi hz ⟨g, 0, none⟩ n cap xs hv.1 holds ad m c news hl hnews (by omega) (by omega) (growslice_fits (by omega) hbytes)
        have hgr := grown cap (by omega) (fun k => (Value.slice (some ⟨g, 0, none⟩) n cap).ownBlock = some k)
        exact ⟨_, _, hr, hgr.1, hgr.2, Or.inr rfl⟩

variable {ops : Array Oper} {o : Oper} {a : Act} {Q : Exit → Act → World → Prop}
theorem wp_app {K : Act → World → Prop} (T : SlTy P t e sz by_ z) (s x : Operand) (ho : o.op = .call { callee := .builtin .append, args := #[s, x], argTypes := #[t, t] })
    (base : Nat) {v xv : Value} {n m B : Nat} {xs news : List Value} (hs : a.eval s = v) (hxv : a.eval x = xv) (hv : Own w base e sz v n xs) (hx : Sl w B xv sz m news) (h1 : ∀ u ∈ news, u.oneCell' = true)
    (hm : n + m ≤ 9223372036854775807) (hbytes : (n + m) * by_ ≤ 140737488355328) (hbase : base ≤ w.heap.size)
    (h : ∀ v' w', App w base e sz v (n + m) (xs ++ news) v' w' → K (a.put o.dst v') w') : o.wp P a w K Q := by
  obtain ⟨v', w', hr, h2⟩ := run_app T o.type base hv hx h1 hm hbytes hbase
  unfold Oper.wp execOp
  simp only [ho, resolve, invoke, builtin, Sem.run_bind, Sem.run_pure, Result.andThen_ok, List.map_toArray, List.map_cons, List.map_nil, hs, hxv, hr]
  exact h v' w' h2
/-- the walk's law at an append -/
theorem wpList_app {rest : List Oper} (hgd : o.guard = none) (T : SlTy P t e sz by_ z) (s x : Operand) (ho : o.op = .call { callee := .builtin .append, args := #[s, x], argTypes := #[t, t] })
    (base : Nat) {v xv : Value} {n m B : Nat} {xs news : List Value} (hs : a.eval s = v) (hxv : a.eval x = xv) (hv : Own w base e sz v n xs) (hx : Sl w B xv sz m news) (h1 : ∀ u ∈ news, u.oneCell' = true)
    (hm : n + m ≤ 9223372036854775807) (hbytes : (n + m) * by_ ≤ 140737488355328) (hbase : base ≤ w.heap.size)
    (h : ∀ v' w', App w base e sz v (n + m) (xs ++ news) v' w' → wpList P ops Q rest (a.put o.dst v') w') : wpList P ops Q (o :: rest) a w :=
  wpList_plain hgd fun _ hK => wp_app T s x ho base hs hxv hv hx h1 hm hbytes hbase fun v' w' h2 => hK _ _ (h v' w' h2)
/-- as a step of a region that draws its order -/
theorem step_app {K : Act → World → Prop} {E : Prop} (hgd : o.guard = none) (T : SlTy P t e sz by_ z) (s x : Operand) (ho : o.op = .call { callee := .builtin .append, args := #[s, x], argTypes := #[t, t] })
    (base : Nat) {v xv : Value} {n m B : Nat} {xs news : List Value} (hs : a.eval s = v) (hxv : a.eval x = xv) (hv : Own w base e sz v n xs) (hx : Sl w B xv sz m news) (h1 : ∀ u ∈ news, u.oneCell' = true)
    (hm : n + m ≤ 9223372036854775807) (hbytes : (n + m) * by_ ≤ 140737488355328) (hbase : base ≤ w.heap.size)
    (h : ∀ v' w', App w base e sz v (n + m) (xs ++ news) v' w' → K (a.put o.dst v') w') : if Region.wanted o (yielded ops a.tmps) = true then Oper.wp P o a w K Q else E := by
  have hw : Region.wanted o (yielded ops a.tmps) = true := by simp [Region.wanted, hgd]
  rw [if_pos hw]
  exact wp_app T s x ho base hs hxv hv hx h1 hm hbytes hbase h
end

end Go.Proofs.Ytkobaidamdffmaa
