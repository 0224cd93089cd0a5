/- The reference's Decode: what stands while its loops run. / The law's step: what it leaves; zeroing a copy; Put as step calls it. -/
import Derived.Test.YtkobaidamdffmaaQCellsDecodes11
import Derived.Test.YtkobaidamdffmaaQCellsDecodes18
import Derived.Test.YtkobaidamdffmaaQCellsDecodes15

namespace Go.Proofs.Ytkobaidamdffmaa
open Go.RowKit
set_option linter.unusedVariables false
set_option linter.unusedSimpArgs false

def kf (x : PK × CD) : List Int × Int × Int × CD := (x.1.b, x.1.f, x.1.t, x.2)
def rf (x : RC) : List Int × Int × Int × CD := (x.kb, x.f, x.t, x.d)
theorem kf_rf {y : PK × CD} {x : RC} (h : kf y = rf x) : x.has y.1 ∧ x.d = y.2 := by
  unfold kf rf at h
  simp only [Prod.mk.injEq] at h
  exact ⟨⟨h.1, h.2.1, h.2.2.1⟩, h.2.2.2.symm⟩
/-- the outer loop -/
structure DrP (D : List Int) (n k a : Nat) (ok : Bool) (R : List RC) : Prop where
  len : R.length = k
  good : ok = true → a ≤ D.length ∧ ∃ (M0 : List (PK × CD)) (q : Option PK), M0.map kf = R.map rf ∧ (k = 0 → q = none) ∧ (0 < k → ∃ p x, q = some p ∧ R[k - 1]? = some x ∧ x.has p) ∧ (∀ M, DecT D M ↔ ∃ M', M = M0 ++ M' ∧ Dec q (n - k) (D.drop a) M')
  bad : ok = false → k = n ∧ ∀ M, ¬ DecT D M
theorem DrP.start {D : List Int} {n : Nat} (h8 : Bytes8 D) (hn : (ngR D 4).getD 0 = n) : DrP D n 0 4 (ngR D 4).isSome [] := by
  cases h : ngR D 4 with
  | none =>
    rw [h] at hn
    refine ⟨rfl, (fun e => by cases e), fun _ => ⟨?_, fun M hM => ?_⟩⟩
    · have : (0 : Int) = n := hn
      omega
    · obtain ⟨r, rfl, h2, h3⟩ := hM
      have h4 := (ng_fwd (x := M.length) (c := 4) r (by omega) (by omega)).1
      rw [h] at h4
      cases h4
  | some x =>
    rw [h] at hn
    have hx : x = n := hn
    subst hx
    obtain ⟨h1, h2, h3, h4⟩ := ng_inv h8 h
    refine ⟨rfl, fun _ => ⟨h1, [], none, rfl, fun _ => rfl, fun h9 => by omega, fun M => ⟨?_, ?_⟩⟩, fun e => by cases e⟩
    · rintro ⟨r, e, k2, k3⟩
      have k4 := ng_fwd (x := M.length) (c := 4) r (by omega) (by omega)
      rw [← e, h] at k4
      obtain ⟨k5, k6⟩ := k4
      have k7 := Option.some.inj k5
      have hl : M.length = n := by omega
      refine ⟨M, rfl, ?_⟩
      rw [k6, Nat.sub_zero, ← hl]
      exact k3
    · rintro ⟨M', rfl, h9⟩
      rw [Nat.sub_zero] at h9
      have hl := h9.len
      subst hl
      exact ⟨_, h2, by omega, h9⟩
theorem DrP.no {D : List Int} {n k a : Nat} {R : List RC} (h : DrP D n k a true R) (hk : k < n) (hd : ∀ p d r, ¬ Rec (D.drop a) p d r) : ∀ M, ¬ DecT D M := fun M hM => by
  obtain ⟨_, M0, q, _, _, _, h4⟩ := h.good rfl
  obtain ⟨M', _, h9⟩ := (h4 M).1 hM
  rw [show n - k = (n - (k + 1)) + 1 by omega] at h9
  obtain ⟨p, d, r, M2, h5, _⟩ := h9
  exact hd p d r h5
theorem DrP.none {D : List Int} {n k a : Nat} {R : List RC} (h : DrP D n k a true R) (hk : k < n) (hd : rcd 10 (D.drop a) = none) : ∀ M, ¬ DecT D M :=
  h.no hk fun p d r hr => by rw [rec_rcd hr] at hd; cases hd
/-- the fields of a cell -/
def cdR (ab : List Int) (v4 v5 v6 v7 v8 v9 : Int) : CD := ⟨ab, v4, v5, v7, v6, decide (v8 = 1), decide (v9 = 1)⟩
theorem rec_same {E : List Int} {p : PK} {d : CD} {r : List Int} {y : RV} {v0 v1 v2 v3 v4 v5 v6 v7 v8 v9 : Int} (h : Rec E p d r) (hy : rcd 10 E = some y) (hv : y.vs = [v0, v1, v2, v3, v4, v5, v6, v7, v8, v9]) :
    p.b = y.kb ∧ p.f = v0 - 4194304 ∧ p.t = v1 - 4194304 ∧ d = cdR y.ab v4 v5 v6 v7 v8 v9 ∧ r = y.r ∧ v8 ≤ 1 ∧ v9 ≤ 1 := by
  have h1 := rec_rcd h
  rw [hy] at h1
  have h2 := Option.some.inj h1
  subst h2
  simp only [List.cons.injEq, and_true] at hv
  obtain ⟨e0, e1, e2, e3, e4, e5, e6, e7, e8, e9⟩ := hv
  subst e0 e1 e2 e3 e4 e5 e6 e7 e8 e9
  have b1 : ∀ b : Bool, bit1 b ≤ 1 ∧ decide (bit1 b = 1) = b := fun b => by cases b <;> decide
  refine ⟨rfl, by omega, by omega, ?_, rfl, (b1 _).1, (b1 _).1⟩
  unfold cdR
  rw [(b1 _).2, (b1 _).2]
theorem DrP.wrong {D : List Int} {n k a : Nat} {R : List RC} {y : RV} {v0 v1 v2 v3 v4 v5 v6 v7 v8 v9 : Int} (h : DrP D n k a true R) (hk : k < n) (hy : rcd 10 (D.drop a) = some y) (hv : y.vs = [v0, v1, v2, v3, v4, v5, v6, v7, v8, v9])
    (hw : 1 < v8 ∨ 1 < v9 ∨ ¬ (keyR y.kb.length (v0 - 4194304) (v1 - 4194304) ∧ (cdR y.ab v4 v5 v6 v7 v8 v9).right)) : ∀ M, ¬ DecT D M :=
  h.no hk fun p d r hr => by
    obtain ⟨e1, e2, e3, e4, e5, e6, e7⟩ := rec_same hr hy hv
    rcases hw with hw | hw | hw
    · omega
    · omega
    · rw [← e1, ← e2, ← e3, ← e4] at hw
      exact hw ⟨⟨p.ok.2.1, p.ok.2.2⟩, hr.2.1⟩
theorem DrP.order {D : List Int} {n k a : Nat} {R : List RC} {y : RV} {v0 v1 v2 v3 v4 v5 v6 v7 v8 v9 : Int} {x z : RC} (h : DrP D n k a true R) (hk : k < n) (hy : rcd 10 (D.drop a) = some y) (hv : y.vs = [v0, v1, v2, v3, v4, v5, v6, v7, v8, v9])
    (h0 : 0 < k) (hx : R[k - 1]? = some x) (hz : z.kb = y.kb ∧ z.f = v0 - 4194304 ∧ z.t = v1 - 4194304) (ho : ¬ ordR x z < 0) : ∀ M, ¬ DecT D M := fun M hM => by
  obtain ⟨_, M0, q, _, _, h3, h4⟩ := h.good rfl
  obtain ⟨M', _, h9⟩ := (h4 M).1 hM
  rw [show n - k = (n - (k + 1)) + 1 by omega] at h9
  obtain ⟨p, d, r, M2, h5, h6, _⟩ := h9
  obtain ⟨e1, e2, e3, e4, e5, e6, e7⟩ := rec_same h5 hy hv
  obtain ⟨p', x', hq, hx', hp'⟩ := h3 h0
  rw [hx] at hx'
  have hxx := Option.some.inj hx'
  subst hxx
  have h7 := h6 p' hq
  rw [ordR_neg, hz.1, hz.2.1, hz.2.2, ← e1, ← e2, ← e3, ← hp'.1, ← hp'.2.1, ← hp'.2.2] at ho
  exact ho h7
theorem DrP.next {D : List Int} {n k a a' : Nat} {R : List RC} {y : RV} {v0 v1 v2 v3 v4 v5 v6 v7 v8 v9 : Int} {z : RC} (h8 : Bytes8 D) (h : DrP D n k a true R) (hk : k < n) (hy : rcd 10 (D.drop a) = some y) (hv : y.vs = [v0, v1, v2, v3, v4, v5, v6, v7, v8, v9])
    (hz : z.kb = y.kb ∧ z.f = v0 - 4194304 ∧ z.t = v1 - 4194304) (hd : z.d = cdR y.ab v4 v5 v6 v7 v8 v9) (hw : ¬ 1 < v8 ∧ ¬ 1 < v9 ∧ (keyR y.kb.length (v0 - 4194304) (v1 - 4194304) ∧ (cdR y.ab v4 v5 v6 v7 v8 v9).right))
    (ho : ∀ x, 0 < k → R[k - 1]? = some x → ordR x z < 0) (ha : y.r = D.drop a') (hal : a' ≤ D.length) : DrP D n (k + 1) a' true (R ++ [z]) := by
  obtain ⟨_, M0, q, h1, h2, h3, h4⟩ := h.good rfl
  obtain ⟨w0, w1, w2, w3, w4, w5, w6, w7, w8, w9, hv', k8, a8, r8, -, -, hl, hE⟩ := rcd_inv (h8.drop a) hy
  rw [hv] at hv'
  simp only [List.cons.injEq, and_true] at hv'
  obtain ⟨e0, e1, e2, e3, e4, e5, e6, e7, e8, e9⟩ := hv'
  subst e0 e1 e2 e3 e4 e5 e6 e7 e8 e9
  let p : PK := ⟨y.kb, v0 - 4194304, v1 - 4194304, k8, hw.2.2.1.1, hw.2.2.1.2⟩
  have hp : z.has p := ⟨hz.1.symm, hz.2.1.symm, hz.2.2.symm⟩
  have hr : Rec (D.drop a) p (cdR y.ab v4 v5 v6 v7 v8 v9) y.r := by
    rw [hE]
    exact encV_rec ⟨hl.1, by omega⟩ ⟨hl.2, by omega⟩ rfl rfl rfl a8 hw.2.2.2
  have hlt : ∀ q', q = some q' → ltP q' p := fun q' hq => by
    rcases Nat.eq_zero_or_pos k with hk0 | hk0
    · rw [h2 hk0] at hq; cases hq
    · obtain ⟨p', x', hq', hx', hp'⟩ := h3 hk0
      rw [hq'] at hq
      have := Option.some.inj hq
      subst this
      have h9 := ho x' hk0 hx'
      rw [ordR_neg, ← hp.1, ← hp.2.1, ← hp.2.2, ← hp'.1, ← hp'.2.1, ← hp'.2.2] at h9
      exact h9
  refine ⟨by rw [List.length_append, h.len]; rfl, fun _ => ⟨hal, M0 ++ [(p, z.d)], some p, ?_, fun h9 => by omega, fun _ => ⟨p, z, rfl, ?_, hp⟩, fun M => ?_⟩, fun e => by cases e⟩
  · rw [List.map_append, List.map_append, h1]
    congr 1
    show [kf (p, z.d)] = [rf z]
    unfold kf rf
    rw [hz.1, hz.2.1, hz.2.2]
  · rw [Nat.add_sub_cancel, List.getElem?_append_right (by rw [h.len]; omega), h.len, Nat.sub_self]
    rfl
  · rw [h4 M, show n - k = (n - (k + 1)) + 1 by omega, ← ha]
    constructor
    · rintro ⟨M', rfl, p', d', r', M2, g1, g2, rfl, g4⟩
      obtain ⟨c1, c2, c3⟩ := hr.uniq g1
      subst c1 c2 c3
      exact ⟨M2, by rw [List.append_assoc, hd]; rfl, g4⟩
    · rintro ⟨M2, rfl, g4⟩
      refine ⟨(p, z.d) :: M2, by rw [List.append_assoc]; rfl, p, z.d, y.r, M2, by rw [hd]; exact hr, hlt, rfl, g4⟩
theorem DrP.done {D : List Int} {n a : Nat} {ok : Bool} {R : List RC} (h : DrP D n n a ok R) : (ok = true ∧ a = D.length → ∃ M, DecT D M ∧ M.map kf = R.map rf) ∧ (¬ (ok = true ∧ a = D.length) → ∀ M, ¬ DecT D M) := by
  refine ⟨fun ⟨h1, h2⟩ => ?_, fun h1 M hM => ?_⟩
  · obtain ⟨_, M0, q, g1, g2, g3, g4⟩ := h.good h1
    refine ⟨M0, (g4 M0).2 ⟨[], by rw [List.append_nil], ?_⟩, g1⟩
    rw [Nat.sub_self, h2, List.drop_length]
    exact ⟨rfl, rfl⟩
  · cases hok : ok
    · exact (h.bad hok).2 M hM
    · obtain ⟨hal, M0, q, g1, g2, g3, g4⟩ := h.good hok
      obtain ⟨M', _, g5⟩ := (g4 M).1 hM
      rw [Nat.sub_self] at g5
      have h9 := congrArg List.length g5.1
      rw [List.length_drop] at h9
      exact h1 ⟨hok, by simp at h9; omega⟩

/-- the reference's table: only appended to -/
structure RdT (w X : World) (xb : Nat) (lv : Value) (R : List RC) : Prop where
  blk : Blk X xb rtT #[lv, .slice none 0 0, .bool false]
  own : Own X w.heap.size rcT 10 lv R.length (rcs R)
  q : ∀ x ∈ R, Own X w.heap.size bT 1 x.k x.kb.length (bys x.kb) ∧ Own X w.heap.size bT 1 x.a x.d.b.length (bys x.d.b) ∧ Bytes8 x.kb ∧ Bytes8 x.d.b ∧ x.kb.length ≤ 1048576 ∧ x.d.b.length ≤ 1048576
  bl : Below w.heap.size w X
  lo : w.heap.size ≤ xb
section
variable {w X Y : World} {xb : Nat} {lv : Value} {R : List RC}
theorem RdT.below (h : RdT w X xb lv R) (k : Below X.heap.size X Y) : RdT w Y xb lv R :=
  ⟨h.blk.below k h.blk.lt, h.own.below k, fun x hx => ⟨(h.q x hx).1.below k, (h.q x hx).2.1.below k, (h.q x hx).2.2⟩, h.bl.trans (k.mono h.bl.size), h.lo⟩
theorem RdT.rcq (h : RdT w X xb lv R) : ∀ x ∈ R, RCQ X x := fun x hx =>
  ⟨(h.q x hx).1.sl, by have := (h.q x hx).2.2.2.2.1; omega, (h.q x hx).2.2.1, (h.q x hx).2.1.sl, by have := (h.q x hx).2.2.2.2.2; omega, (h.q x hx).2.2.2.1⟩
end
abbrev arT : Nat := 106
def szV : Array Value := #[.int .i64 4, .int .i64 4, .int .i64 4, .int .i64 4, .int .i64 4, .int .i64 8, .int .i64 8, .int .i64 1, .int .i64 1, .int .i64 1, .int .i64 0]
theorem sz_at : ∀ k, k < 10 → szV[k]? = some (.int .i64 (szL k : Nat))
  | 0, _ => rfl | 1, _ => rfl | 2, _ => rfl | 3, _ => rfl | 4, _ => rfl | 5, _ => rfl | 6, _ => rfl | 7, _ => rfl | 8, _ => rfl | 9, _ => rfl
  | k + 10, h => by omega
theorem szL_le (k : Nat) : szL k ≤ 8 ∧ 1 ≤ szL k := by unfold szL; split <;> (try split) <;> omega
/-- the inner loop, plain -/
structure RiP (D : List Int) (a0 k a : Nat) (ok : Bool) (vl kb ab : List Int) : Prop where
  len : vl.length = 11
  lim : ∀ x ∈ vl, 0 ≤ x ∧ x < 4611686018427387904
  good : ok = true → a ≤ D.length ∧ rcd k (D.drop a0) = some ⟨vl.take k, kb, ab, D.drop a⟩
  bad : ok = false → rcd 10 (D.drop a0) = none
theorem RiP.start {D : List Int} {a0 : Nat} (h : a0 ≤ D.length) : RiP D a0 0 a0 true [0, 0, 0, 0, 0, 0, 0, 0, 0, 0, 0] [] [] :=
  ⟨rfl, (fun x hx => by simp at hx; omega), fun _ => ⟨h, rfl⟩, fun e => by cases e⟩
theorem lim_set {vl : List Int} {k : Nat} {x : Int} (h : ∀ x ∈ vl, 0 ≤ x ∧ x < 4611686018427387904) (hx : 0 ≤ x ∧ x < 4611686018427387904) : ∀ z ∈ vl.set k x, 0 ≤ z ∧ z < 4611686018427387904 := fun z hz => by
  rcases List.mem_or_eq_of_mem_set hz with h1 | h1
  · exact h z h1
  · rw [h1]; exact hx
theorem numL_bd (T : Int) (hT : 0 < T) : ∀ (D : List Int) (z n : Int), Bytes8 D → 0 ≤ z → z < T * 256 + 256 → numL T z D = some n → n < T * 256 + 256
  | [], z, n, _, _, hz, h => by
    have := Option.some.inj h
    omega
  | c :: D, z, n, h8, h0, hz, h => by
    unfold numL at h
    split at h
    · cases h
    · have hc := h8 c List.mem_cons_self
      exact numL_bd T hT D _ n (fun x hx => h8 x (List.mem_cons_of_mem _ hx)) (by omega) (by omega) h
theorem ng_bd {E : List Int} {c : Nat} {x : Int} (h8 : Bytes8 E) (h : ngR E c = some x) : 0 ≤ x ∧ x < 4611686018427387904 := by
  refine ⟨(ng_inv h8 h).2.2.1, ?_⟩
  unfold ngR at h
  split at h
  · cases h
  · have h1 := numL_bd 1125899906842625 (by omega) _ 0 x (h8.take c) (by omega) (by omega) h
    omega
theorem take_set {vl : List Int} {k : Nat} {x : Int} (h : k < vl.length) : (vl.set k x).take (k + 1) = vl.take k ++ [x] := by
  rw [List.take_set, List.take_succ_eq_append_getElem h, List.set_append_right _ _ (by rw [List.length_take]; omega)]
  congr 1
  rw [List.length_take, Nat.min_eq_left (by omega), Nat.sub_self]
  rfl
/-- the number isn't there -/
theorem RiP.lost {D : List Int} {a0 k a a' : Nat} {vl kb ab kb' ab' : List Int} (h : RiP D a0 k a true vl kb ab) (hk : k < 10) (hn : ngR (D.drop a) (szL k) = none) : RiP D a0 (k + 1) a' false (vl.set k 0) kb' ab' ∧ rcd 10 (D.drop a0) = none := by
  have h1 : rcd (k + 1) (D.drop a0) = none := by
    rw [rcd, (h.good rfl).2]
    simp only
    have : rfld k (D.drop a) = none := by unfold rfld; rw [hn]
    rw [this]
  have h2 := rcd_none h1 (9 - k)
  rw [show k + 1 + (9 - k) = 10 by omega] at h2
  exact ⟨⟨by rw [List.length_set]; exact h.len, lim_set h.lim (by omega), (fun e => by cases e), fun _ => h2⟩, h2⟩
/-- the part isn't there -/
theorem RiP.cut {D : List Int} {a0 k a : Nat} {vl kb ab : List Int} {x : Int} (h : RiP D a0 k a true vl kb ab) (hk : k = 2 ∨ k = 3) (hn : ngR (D.drop a) (szL k) = some x) (hx : 1048576 < x ∨ (D.length : Int) - ((a : Int) + (szL k : Nat)) < x) (hx0 : a + szL k ≤ D.length) : rcd 10 (D.drop a0) = none := by
  have h1 : rcd (k + 1) (D.drop a0) = none := by
    rw [rcd, (h.good rfl).2]
    simp only
    have : rfld k (D.drop a) = none := by
      unfold rfld
      rw [hn]
      simp only
      rw [if_pos hk, if_pos]
      rw [List.drop_drop, List.length_drop]
      omega
    rw [this]
  have h2 := rcd_none h1 (9 - k)
  rw [show k + 1 + (9 - k) = 10 by omega] at h2
  exact h2
theorem RiP.plain {D : List Int} {a0 k a : Nat} {vl kb ab : List Int} {x : Int} (h8 : Bytes8 D) (h : RiP D a0 k a true vl kb ab) (hk : k < 10) (hk2 : ¬ (k = 2 ∨ k = 3)) (hn : ngR (D.drop a) (szL k) = some x) : RiP D a0 (k + 1) (a + szL k) true (vl.set k x) kb ab := by
  have h1 := ng_inv (h8.drop a) hn
  rw [List.length_drop] at h1
  refine ⟨by rw [List.length_set]; exact h.len, lim_set h.lim (ng_bd (h8.drop a) hn), fun _ => ⟨by have := (h.good rfl).1; have := (szL_le k).2; omega, ?_⟩, fun e => by cases e⟩
  have h2 : rfld k (D.drop a) = some (x, [], D.drop (a + szL k)) := by
    unfold rfld
    rw [hn]
    simp only
    rw [if_neg hk2, List.drop_drop]
  rw [rcd_fwd (h.good rfl).2 h2, take_set (by have := h.len; omega), if_neg (fun e => hk2 (.inl e)), if_neg (fun e => hk2 (.inr e))]
theorem RiP.part {D : List Int} {a0 k a : Nat} {vl kb ab : List Int} {x : Nat} (h8 : Bytes8 D) (h : RiP D a0 k a true vl kb ab) (hk2 : k = 2 ∨ k = 3) (hn : ngR (D.drop a) (szL k) = some (x : Int)) (hx : x ≤ 1048576 ∧ a + szL k + x ≤ D.length) :
    RiP D a0 (k + 1) (a + szL k + x) true (vl.set k x) (if k = 2 then (D.drop (a + szL k)).take x else kb) (if k = 3 then (D.drop (a + szL k)).take x else ab) := by
  refine ⟨by rw [List.length_set]; exact h.len, lim_set h.lim (ng_bd (h8.drop a) hn), fun _ => ⟨hx.2, ?_⟩, fun e => by cases e⟩
  have h2 : rfld k (D.drop a) = some ((x : Int), (D.drop (a + szL k)).take x, D.drop (a + szL k + x)) := by
    unfold rfld
    rw [hn]
    simp only
    rw [if_pos hk2, if_neg (by rw [List.drop_drop, List.length_drop]; omega), List.drop_drop, List.drop_drop, Int.toNat_natCast]
  rw [rcd_fwd (h.good rfl).2 h2, take_set (by have := h.len; omega)]
/-- the inner loop, in memory: w0 is the world ahead of the record -/
structure RiW (w0 X : World) (cb vb sb : Nat) (kv av : Value) (vl kb ab : List Int) : Prop where
  bl : Below w0.heap.size w0 X
  cc : Blk X cb rcT #[kv, .int .i64 0, .int .i64 0, av, .int .i64 0, .int .i64 0, .int .i64 0, .int .i64 0, .bool false, .bool false]
  vv : Blk X vb arT (vl.map (Value.int .i64)).toArray
  ss : Blk X sb arT szV
  kk : Own X w0.heap.size bT 1 kv kb.length (bys kb)
  aa : Own X w0.heap.size bT 1 av ab.length (bys ab)
  k8 : Bytes8 kb ∧ Bytes8 ab
  lo : w0.heap.size ≤ cb ∧ w0.heap.size ≤ vb ∧ w0.heap.size ≤ sb
  ne : vb ≠ sb
theorem RiW.below {w0 X Y : World} {cb vb sb : Nat} {kv av : Value} {vl kb ab : List Int} (h : RiW w0 X cb vb sb kv av vl kb ab) (k : Below X.heap.size X Y) : RiW w0 Y cb vb sb kv av vl kb ab :=
  ⟨h.bl.trans (k.mono h.bl.size), h.cc.below k h.cc.lt, h.vv.below k h.vv.lt, h.ss.below k h.ss.lt, h.kk.below k, h.aa.below k, h.k8, h.lo, h.ne⟩
/-- v[k] = x -/
theorem RiW.num {w0 X : World} {cb vb sb k : Nat} {kv av : Value} {vl kb ab : List Int} (h : RiW w0 X cb vb sb kv av vl kb ab) (x : Int) (hk : k < vl.length) : RiW w0 (X.setCell ⟨vb, k, none⟩ (.int .i64 x)) cb vb sb kv av (vl.set k x) kb ab := by
  have hf : Fr (fun j => j = vb) X (X.setCell ⟨vb, k, none⟩ (.int .i64 x)) := (Fr.refl _ X).put1 k _
  have hno : ∀ {v : Value} {n : Nat} {xs : List Value}, Own X w0.heap.size bT 1 v n xs → Own (X.setCell ⟨vb, k, none⟩ (.int .i64 x)) w0.heap.size bT 1 v n xs := fun ho => ho.fr hf (fun g hg e => ho.ne h.vv (by decide) (by rw [hg, e]))
  refine ⟨h.bl.trans (hf.below h.bl.size (fun j hj e => by have := h.lo.2.1; omega)), hf.blk h.cc (fun e => by have := h.cc; rw [e] at this; exact this.apart h.vv (by decide) rfl), ?_, hf.blk h.ss (fun e => h.ne e.symm), hno h.kk, hno h.aa, h.k8, h.lo, h.ne⟩
  have h9 := h.vv.put k (.int .i64 x)
  have e : (vl.map (Value.int .i64)).toArray.setIfInBounds k (.int .i64 x) = ((vl.set k x).map (Value.int .i64)).toArray := by
    rw [List.map_set]
    simp
  rw [← e]
  exact h9
/-- c.Key = part, c.Acc = part -/
theorem RiW.part {w0 X : World} {cb vb sb : Nat} {kv av pv : Value} {vl kb ab pt : List Int} (h : RiW w0 X cb vb sb kv av vl kb ab) (hp : Own X w0.heap.size bT 1 pv pt.length (bys pt)) (hp8 : Bytes8 pt) :
    RiW w0 (X.setCell ⟨cb, 0, none⟩ pv) cb vb sb pv av vl pt ab ∧ RiW w0 (X.setCell ⟨cb, 3, none⟩ pv) cb vb sb kv pv vl kb pt := by
  have hf : ∀ i, Fr (fun j => j = cb) X (X.setCell ⟨cb, i, none⟩ pv) := fun i => (Fr.refl _ X).put1 i _
  have hno : ∀ (i : Nat) {v : Value} {n : Nat} {xs : List Value}, Own X w0.heap.size bT 1 v n xs → Own (X.setCell ⟨cb, i, none⟩ pv) w0.heap.size bT 1 v n xs := fun i _ _ _ ho => ho.fr (hf i) (fun g hg e => ho.ne h.cc (by decide) (by rw [hg, e]))
  have hv : ∀ i, Blk (X.setCell ⟨cb, i, none⟩ pv) vb arT (vl.map (Value.int .i64)).toArray := fun i => (hf i).blk h.vv (fun e => by have := h.vv; rw [e] at this; exact this.apart h.cc (by decide) rfl)
  have hs : ∀ i, Blk (X.setCell ⟨cb, i, none⟩ pv) sb arT szV := fun i => (hf i).blk h.ss (fun e => by have := h.ss; rw [e] at this; exact this.apart h.cc (by decide) rfl)
  have hb : ∀ i, Below w0.heap.size w0 (X.setCell ⟨cb, i, none⟩ pv) := fun i => h.bl.trans ((hf i).below h.bl.size (fun j hj e => by have := h.lo.1; omega))
  refine ⟨⟨hb 0, ?_, hv 0, hs 0, hno 0 hp, hno 0 h.aa, ⟨hp8, h.k8.2⟩, h.lo, h.ne⟩, ⟨hb 3, ?_, hv 3, hs 3, hno 3 h.kk, hno 3 hp, ⟨h.k8.1, hp8⟩, h.lo, h.ne⟩⟩
  · have h9 := h.cc.put 0 pv
    simpa using h9
  · have h9 := h.cc.put 3 pv
    simpa using h9
/-- t.List = append(t.List, c) -/
theorem RdT.snoc {w X W w5 : World} {xb k : Nat} {lv v5 : Value} {R : List RC} {z : RC} (h : RdT w X xb lv R) (hk : R.length = k) (hW : Below X.heap.size X W)
    (hz : Own X w.heap.size bT 1 z.k z.kb.length (bys z.kb) ∧ Own X w.heap.size bT 1 z.a z.d.b.length (bys z.d.b) ∧ Bytes8 z.kb ∧ Bytes8 z.d.b ∧ z.kb.length ≤ 1048576 ∧ z.d.b.length ≤ 1048576)
    (ha : App W w.heap.size rcT 10 lv (k + 1) (rcs R ++ rcs [z]) v5 w5) : RdT w (w5.setCell ⟨xb, 0, none⟩ v5) xb v5 (R ++ [z]) := by
  have hX := h.below hW
  have hne : lv.ownBlock ≠ some xb := hX.own.ne hX.blk (by decide)
  have hb5 : Blk w5 xb rtT #[lv, .slice none 0 0, .bool false] := ha.fr.blk hX.blk hne
  have hl5 : w.heap.size ≤ w5.heap.size := Nat.le_trans hX.bl.size ha.fr.size
  have hno : ∀ {v : Value} {n : Nat} {xs : List Value}, Own W w.heap.size bT 1 v n xs → Own (w5.setCell ⟨xb, 0, none⟩ v5) w.heap.size bT 1 v n xs := fun ho => by
    have h1 := ho.fr ha.fr (fun g hg hg' => by
      obtain ⟨cs1, t1⟩ := ho.typed g hg
      obtain ⟨cs2, t2⟩ := hX.own.typed g hg'
      exact t1.apart t2 (by decide) rfl)
    exact h1.put (h1.ne hb5 (by decide)) _
  refine ⟨?_, ?_, fun x hx => ?_, ?_, h.lo⟩
  · have h9 := hb5.put 0 v5
    simpa using h9
  · have h9 := ha.own.put (p := ⟨xb, 0, none⟩) (ha.own.ne hb5 (by decide)) v5
    rw [List.length_append, rcs_app, hk]
    exact h9
  · rcases List.mem_append.1 hx with h9 | h9
    · exact ⟨hno (hX.q x h9).1, hno (hX.q x h9).2.1, (hX.q x h9).2.2⟩
    · rw [List.mem_singleton.1 h9]
      exact ⟨hno (hz.1.below hW), hno (hz.2.1.below hW), hz.2.2⟩
  · have h1 : Below w.heap.size w w5 := hX.bl.trans (ha.fr.below hX.bl.size (fun j hj e => by have := (hX.own.lt j e).1; omega))
    exact h1.trans (((Fr.refl (fun j => j = xb) w5).put1 0 v5).below hl5 (fun j hj e => by have := h.lo; omega))
/-- c's other fields -/
def putRc (X : World) (cb : Nat) (f t s n g h : Int) (p c : Bool) : World := ((((((((X.setCell ⟨cb, 1, none⟩ (.int .i64 f)).setCell ⟨cb, 2, none⟩ (.int .i64 t)).setCell ⟨cb, 4, none⟩ (.int .i64 s)).setCell ⟨cb, 5, none⟩ (.int .i64 n)).setCell ⟨cb, 6, none⟩ (.int .i64 g)).setCell ⟨cb, 7, none⟩ (.int .i64 h)).setCell ⟨cb, 8, none⟩ (.bool p)).setCell ⟨cb, 9, none⟩ (.bool c))
/-- behind the inner loop, c filled -/
structure RcW (w0 X : World) (cb vb : Nat) (x : RC) (vl : List Int) : Prop where
  bl : Below w0.heap.size w0 X
  cc : Blk X cb rcT #[x.k, .int .i64 x.f, .int .i64 x.t, x.a, .int .i64 x.d.s, .int .i64 x.d.n, .int .i64 x.d.g, .int .i64 x.d.h, .bool x.d.p, .bool x.d.c]
  vv : Blk X vb arT (vl.map (Value.int .i64)).toArray
  kk : Own X w0.heap.size bT 1 x.k x.kb.length (bys x.kb)
  aa : Own X w0.heap.size bT 1 x.a x.d.b.length (bys x.d.b)
  k8 : Bytes8 x.kb ∧ Bytes8 x.d.b
  lo : w0.heap.size ≤ cb ∧ w0.heap.size ≤ vb
theorem RcW.below {w0 X Y : World} {cb vb : Nat} {x : RC} {vl : List Int} (h : RcW w0 X cb vb x vl) (k : Below X.heap.size X Y) : RcW w0 Y cb vb x vl :=
  ⟨h.bl.trans (k.mono h.bl.size), h.cc.below k h.cc.lt, h.vv.below k h.vv.lt, h.kk.below k, h.aa.below k, h.k8, h.lo⟩
theorem RiW.fill {w0 X : World} {cb vb sb : Nat} {kv av : Value} {vl kb ab : List Int} (h : RiW w0 X cb vb sb kv av vl kb ab) (f t s n g h' : Int) (p c : Bool) : RcW w0 (putRc X cb f t s n g h' p c) cb vb ⟨kv, kb, f, t, av, ⟨ab, s, n, g, h', p, c⟩⟩ vl := by
  have hf : Fr (fun j => j = cb) X (putRc X cb f t s n g h' p c) := ((((((((Fr.refl _ X).put1 1 _).put1 2 _).put1 4 _).put1 5 _).put1 6 _).put1 7 _).put1 8 _).put1 9 _
  have hno : ∀ {v : Value} {m : Nat} {xs : List Value}, Own X w0.heap.size bT 1 v m xs → Own (putRc X cb f t s n g h' p c) w0.heap.size bT 1 v m xs := fun ho => ho.fr hf (fun g hg e => ho.ne h.cc (by decide) (by rw [hg, e]))
  refine ⟨h.bl.trans (hf.below h.bl.size (fun j hj e => by have := h.lo.1; omega)), ?_, hf.blk h.vv (fun e => by have := h.vv; rw [e] at this; exact this.apart h.cc (by decide) rfl), hno h.kk, hno h.aa, h.k8, h.lo.1, h.lo.2.1⟩
  have h9 := (((((((h.cc.put 1 (.int .i64 f)).put 2 (.int .i64 t)).put 4 (.int .i64 s)).put 5 (.int .i64 n)).put 6 (.int .i64 g)).put 7 (.int .i64 h')).put 8 (.bool p)).put 9 (.bool c)
  simpa [putRc] using h9
end Go.Proofs.Ytkobaidamdffmaa

namespace Go.Proofs.Ytkobaidamdffmaa
open Go.RowKit Go.Sort
set_option linter.unusedVariables false
set_option linter.unusedSimpArgs false

/-- blocks of other types than the two tables' stand -/
def Ks (w w' : World) : Prop := (∀ (g t : Nat) (cs : Array Value) (fr : Nat × Nat), t ≠ tabT → t ≠ rtT → w.heap[g]? = some (.cells cs t fr) → w'.heap[g]? = some (.cells cs t fr)) ∧ w.heap.size ≤ w'.heap.size
theorem Ks.refl (w : World) : Ks w w := ⟨fun _ _ _ _ _ _ h => h, Nat.le_refl _⟩
theorem Ks.trans {w w1 w2 : World} (h : Ks w w1) (k : Ks w1 w2) : Ks w w2 := ⟨fun g t cs fr h1 h2 hb => k.1 g t cs fr h1 h2 (h.1 g t cs fr h1 h2 hb), Nat.le_trans h.2 k.2⟩
theorem Kt.ks {w w' : World} (h : Kt w w') : Ks w w' := ⟨fun g t cs fr h1 _ hb => h.1 g t cs fr h1 hb, h.2⟩
theorem Ks.below {w w' : World} (h : Below w.heap.size w w') : Ks w w' := (Kt.below h).ks
theorem Ks.blk {w w' : World} (h : Ks w w') {g t : Nat} {cs : Array Value} (hb : Blk w g t cs) (h1 : t ≠ tabT) (h2 : t ≠ rtT) : Blk w' g t cs := h.1 g t cs _ h1 h2 hb
theorem Ks.own {w w' : World} (h : Ks w w') {base e sz n : Nat} {v : Value} {xs : List Value} (ho : Own w base e sz v n xs) (h1 : e ≠ tabT) (h2 : e ≠ rtT) : Own w' base e sz v n xs := by
  refine ho.to fun g hg => ?_
  obtain ⟨cs, hc⟩ := ho.typed g hg
  have h3 := h.1 g e cs _ h1 h2 hc
  unfold Blk at hc
  rw [hc, h3]
theorem Ks.ro {w w' : World} (h : Ks w w') {base : Nat} {v : Value} {D : List Int} (ho : RoB w base v D) : RoB w' base v D := by
  obtain ⟨A, c, h1, h2, h3, h4⟩ := ho
  refine ⟨A, c, h1, h2, h3, fun hn => ?_⟩
  obtain ⟨g, cs, fr, h5, h6, h7, h8⟩ := h4 hn
  exact ⟨g, cs, fr, h5, h6, h.1 g bT cs fr (by decide) (by decide) h7, h8⟩
theorem Ks.of_fr {w w' : World} {xb : Nat} {cs : Array Value} (hx : Blk w xb rtT cs) (h : Fr (fun j => j = xb) w w') : Ks w w' :=
  ⟨fun g t cs' fr h1 h2 hb => (h.block g (Array.getElem?_eq_some_iff.1 hb).1 (fun e => by
    unfold Blk at hx
    rw [e, hx] at hb
    injection hb with hb
    injection hb with _ hb
    exact h2 hb.symm)).trans hb, h.size⟩
/-- the reference's table is written: the table stands -/
theorem TabG.of_fr {w0 w w' : World} {tb cb xb : Nat} {wm fm : Option Nat} {bg : Bool} {L W : List (PK × CV)} {F : List (PK × Int)} {cs : Array Value} (h : TabG w0 w tb cb wm fm bg L W F) (hx : Blk w xb rtT cs) (hf : Fr (fun j => j = xb) w w') (hw : w0.heap.size ≤ xb) : TabG w0 w' tb cb wm fm bg L W F :=
  ⟨h.ts.fr hf (fun j hj e => h.ts.nblk hx (by decide) (by rw [← e]; exact hj)) (fun g cs' hb e => by
    rw [e] at hb
    exact (hb.apart hx (by decide)) rfl), h.bl.trans (hf.below h.bl.size (fun k hk e => by omega))⟩
/-- what a Put by step changes -/
def UpdPut (bg : Bool) (x : RC) (L W : List (PK × CV)) (F : List (PK × Int)) (D : List RC) (L' W' : List (PK × CV)) (F' : List (PK × Int)) (D' : List RC) : Prop :=
  (¬ (keyR x.kb.length x.f x.t ∧ x.d.right) ∧ L' = L ∧ W' = W ∧ F' = F ∧ D' = D) ∨ (x.d.right ∧ ∃ p c', x.has p ∧ c'.d = x.d ∧ L' = putM L p c' ∧ W' = kpW bg L W F p ∧ F' = kpF bg L W F p ∧ D' = putL x false D)
/-- behind step -/
def StepQ (w X : World) (base tb cb xb : Nat) (wm fm : Option Nat) (bg : Bool) (u : Value) (E : List RC) (b : Bool) (U : List (PK × CV) → List (PK × CV) → List (PK × Int) → List RC → Prop) (e : Ending) (w' : World) : Prop :=
  e = .returned (.bool true) ∧ ∃ L' W' F' v' D', U L' W' F' D' ∧ TabG w w' tb cb wm fm bg L' W' F' ∧ RT w w' base xb v' D' u E b ∧ Ks X w'
/-- a byte of one's own slice is written -/
theorem zero_at {w : World} {base n c k : Nat} {A : Option Addr} {xs : List Value} (h : Own w base bT 1 (.slice A n c) n xs) (hk : k < n) :
    ∃ ad u, A = some ad ∧ (ad.add k).block < w.heap.size ∧ base ≤ (ad.add k).block ∧ (Value.slice A n c).ownBlock = some (ad.add k).block ∧ w.cell? (ad.add k) = some u ∧ w.frozen? (ad.add k) = false ∧ ∀ v, Own (w.setCell (ad.add k) v) base bT 1 (.slice A n c) n (xs.set k v) := by
  have hxl := h.1
  rcases h.2 with ⟨h1, h0⟩ | ⟨g, cap, cur, h1, h2, h3, h4, h5, h6, h7⟩
  · omega
  · injection h1 with h1 _ h8
    subst h1
    subst h8
    have hadd : (⟨g, 0, none⟩ : Addr).add k = ⟨g, k, none⟩ := by
      unfold Addr.add
      split <;> simp_all
    have hcur : k < cur.size := by omega
    refine ⟨_, cur[k], rfl, ?_, ?_, ?_, ?_, ?_, fun v => ?_⟩
    · rw [hadd]; exact (Array.getElem?_eq_some_iff.1 h3).1
    · rw [hadd]; exact h2
    · rw [hadd]; rfl
    · rw [hadd, cell_of_row w g k cur bT (0, 0) h3]
      simp [hcur]
    · rw [hadd]
      exact (show Blk w g bT cur from h3).frozen k
    · rw [hadd]
      refine ⟨by rw [List.length_set]; exact h.1, .inr ⟨g, c, cur.setIfInBounds k v, rfl, h2, Blk.put h3 k v, h4, h5, by simpa using h6, ?_⟩⟩
      rw [← h7, Array.toList_setIfInBounds, List.take_set]
/-- blocks of a band are written in which no cell of the table lies -/
theorem TabS.band {w w' : World} {base tb cb a b : Nat} {wm fm : Option Nat} {bg : Bool} {L W : List (PK × CV)} {F : List (PK × Int)} (h : TabS w base tb cb wm fm bg L W F) (hf : Fr (fun j => a ≤ j ∧ j < b) w w')
    (hT : ∀ j, TBk tb cb wm fm bg j → j < a) (hL : ∀ p ∈ L, ∀ g, p.2.v.ownBlock = some g → g < a ∨ b ≤ g) (hW : bg = true → ∀ p ∈ W, ∀ g, p.2.v.ownBlock = some g → g < a ∨ b ≤ g) : TabS w' base tb cb wm fm bg L W F := by
  have hno : ∀ j, TBk tb cb wm fm bg j → ¬ (a ≤ j ∧ j < b) := fun j hj e => by have := hT j hj; omega
  have hacc : ∀ {c : CV}, AccO w base c → (∀ g, c.v.ownBlock = some g → g < a ∨ b ≤ g) → AccO w' base c := fun hc hg => ⟨hc.1.fr hf (fun g h1 e => by have := hg g h1; omega), hc.2⟩
  refine ⟨hf.blk h.blk (hno _ (.inl rfl)), h.map.fr hf (hno _ (.inr (.inl rfl))), fun p hp => hacc (h.acc p hp) (hL p hp), h.bs, fun e => ?_⟩
  obtain ⟨wb, fb, e1, e2, h3⟩ := h.beg e
  subst e1 e2
  exact ⟨wb, fb, rfl, rfl, h3.wm.fr hf (hno _ (.inr (.inr ⟨e, .inl rfl⟩))), h3.fm.fr hf (hno _ (.inr (.inr ⟨e, .inr rfl⟩))), fun p hp => hacc (h3.acc p hp) (hW e p hp), h3.one, h3.bs, h3.ne⟩
/-- Put as step calls it: at X the table, at Y (behind the copies) the call -/
def PutZ (w X Y : World) (tb cb : Nat) (wm fm : Option Nat) (bg : Bool) (L W : List (PK × CV)) (F : List (PK × Int)) (D : List RC) (x : RC) (r : Int) (w' : World) : Prop :=
  Kt Y w' ∧ ∃ L' W' F', ((r = 150 ∧ ¬ (keyR x.kb.length x.f x.t ∧ x.d.right) ∧ UpdPut bg x L W F D L' W' F' D) ∨ (r = 0 ∧ (keyR x.kb.length x.f x.t ∧ x.d.right) ∧ UpdPut bg x L W F D L' W' F' (putL x false D))) ∧ TabG w w' tb cb wm fm bg L' W' F' ∧
    (∀ p ∈ L', ∀ g, p.2.v.ownBlock = some g → g < X.heap.size ∨ Y.heap.size ≤ g) ∧ (bg = true → ∀ p ∈ W', ∀ g, p.2.v.ownBlock = some g → g < X.heap.size ∨ Y.heap.size ≤ g) ∧ (∀ j, TBk tb cb wm fm bg j → j < X.heap.size)
theorem lput_z (w X Y : World) (tb cb kn kc an ac : Nat) (wm fm : Option Nat) (bg : Bool) (L W : List (PK × CV)) (F : List (PK × Int)) (D : List RC) (kA aA : Option Addr) (x : RC) (h : TabG w X tb cb wm fm bg L W F) (hXY : Below X.heap.size X Y)
    (hk : Own Y 0 bT 1 (.slice kA kn kc) kn (bys x.kb)) (hkn : x.kb.length = kn) (h8 : Bytes8 x.kb) (ha : Own Y 0 bT 1 (.slice aA an ac) an (bys x.d.b)) (han : x.d.b.length = an) (ha8 : Bytes8 x.d.b) :
    Calls Try.prog 10 #[.pointer (some ⟨tb, 0, none⟩), .agg #[.slice kA kn kc, .int .i64 x.f, .int .i64 x.t], .agg #[.slice aA an ac, .int .i64 x.d.s, .int .i64 x.d.n, .int .i64 x.d.g, .int .i64 x.d.h, .bool x.d.p, .bool x.d.c]] Y fun e w' => ∃ r, e = .returned (.int .i64 r) ∧ PutZ w X Y tb cb wm fm bg L W F D x r w' := by
  have hY := h.below hXY
  have hlow : ∀ j, TBk tb cb wm fm bg j → j < X.heap.size := fun j hj => (h.ts.lows j hj).2
  have hLx : ∀ p ∈ L, ∀ g, p.2.v.ownBlock = some g → g < X.heap.size := fun p hp g hg => ((h.ts.acc p hp).1.lt g hg).2
  have hWx : bg = true → ∀ p ∈ W, ∀ g, p.2.v.ownBlock = some g → g < X.heap.size := fun e p hp g hg => by
    obtain ⟨wb, fb, _, _, h3⟩ := h.ts.beg e
    exact ((h3.acc p hp).1.lt g hg).2
  refine (cput_any Y w.heap.size tb cb Y.heap.size kn kc an ac wm fm bg L W F kA aA x.kb x.f x.t x.d hY.ts hk.sl hkn h8 (fun Z hZ => ?_) han ha8 (Nat.le_refl _) hY.bl.size).mono ?_
  · exact Own.slB ((hY.ts.kt hZ).own ha (by decide)) (fun g hg => (ha.lt g hg).2)
  · rintro e w3 (⟨hn, rfl, hb⟩ | ⟨hr, rfl, p, hp1, hp2, hp3, c', hc', hfr, ht3, hf3⟩)
    · exact ⟨_, rfl, Kt.below hb, L, W, F, .inl ⟨rfl, hn, .inl ⟨hn, rfl, rfl, rfl, rfl⟩⟩, hY.below hb, fun p hp g hg => .inl (hLx p hp g hg), fun e p hp g hg => .inl (hWx e p hp g hg), hlow⟩
    · have hkr : keyR x.kb.length x.f x.t := ⟨by rw [← hp1]; exact p.ok.2.1, by have h9 := p.ok.2.2; rw [hp2, hp3] at h9; exact h9⟩
      refine ⟨_, rfl, hY.ts.kt hf3, _, _, _, .inr ⟨rfl, ⟨hkr, hr⟩, .inr ⟨hr, p, c', ⟨hp1, hp2, hp3⟩, hc', rfl, rfl, rfl, rfl⟩⟩, ⟨ht3, hY.after hf3⟩, fun q hq g hg => ?_, fun e q hq g hg => ?_, hlow⟩
      · rcases mem_put hq with h9 | h9
        · exact .inl (hLx q h9 g hg)
        · rw [h9] at hg; exact .inr (hfr g hg)
      · unfold kpW at hq
        split at hq
        · cases hl : lk L p with
          | none => rw [hl] at hq; exact .inl (hWx e q hq g hg)
          | some c =>
            rw [hl] at hq
            rcases mem_put hq with h9 | h9
            · exact .inl (hWx e q h9 g hg)
            · rw [h9] at hg; exact .inl (hLx _ (lk_mem hl) g hg)
        · exact .inl (hWx e q hq g hg)
end Go.Proofs.Ytkobaidamdffmaa
