/- cells.Table: Of (printed by genof15.py). / slices.DeleteFunc at keys; cells.Table: Of (printed by genof15b.py). / Both Commits count the same: plain. -/
import Derived.Test.YtkobaidamdffmaaQCellsDecodes18
import Derived.Deep.CutBlock
import Derived.Test.YtkobaidamdffmaaQCellsDecodes21
import Derived.Test.YtkobaidamdffmaaQCellsDecodes22

namespace Go.Proofs.Ytkobaidamdffmaa
open Go.RowKit Go.Sort
set_option linter.unusedVariables false
set_option linter.unusedSimpArgs false

/-- of another key -/
def offK (K : List Int) (x : KV) : Bool := !decide (x.p.b = K)
abbrev slT : Nat := 23
/-- the key that a call looks for, in its box -/
structure KeyB (w : World) (B kb : Nat) (kA : Option Addr) (kc : Nat) (K : List Int) : Prop where
  blk : Blk w kb slT #[.slice kA K.length kc]
  sl : Sl w B (.slice kA K.length kc) 1 K.length (bys K)
  b8 : Bytes8 K
theorem KeyB.below {w w' : World} {B kb : Nat} {kA : Option Addr} {kc : Nat} {K : List Int} (h : KeyB w B kb kA kc K) (k : Below w.heap.size w w') (hB : B ≤ w.heap.size) : KeyB w' B kb kA kc K := ⟨h.blk.below k h.blk.lt, h.sl.below (k.mono hB), h.b8⟩
set_option maxHeartbeats 4000000 in
theorem of1_any (x : KV) (kb : Nat) (kA : Option Addr) (kc : Nat) (K : List Int) (w : World) (hx : KyO w 0 x) (hk : KeyB w w.heap.size kb kA kc K) :
    Calls Try.prog 57 #[.agg x.cells.toArray, .pointer (some ⟨kb, 0, none⟩)] w fun e w' => e = .returned (.bool (offK K x)) ∧ Below w.heap.size w w' := by
  obtain ⟨xA, c, hkx, hc⟩ := RoB.form hx
  obtain ⟨r, hr⟩ : ∃ r, r = offK K x := ⟨_, rfl⟩
  rw [← hr]
  have HS := hide (RoB.sl hx)
  have HK := hide hk
  obtain ⟨xv, p⟩ := x
  simp only at hkx hc HS
  subst hkx
  have HR : Hid (r = !decide (p.b = K)) := hr
  have HP8 : Hid (Bytes8 p.b) := p.ok.1
  clear hr hx hk
  obtain ⟨n, hn⟩ : ∃ n, n = p.b.length := ⟨_, rfl⟩
  obtain ⟨m, hm⟩ : ∃ m, m = K.length := ⟨_, rfl⟩
  have HN := hide hn
  have HM := hide hm
  rw [← hn] at hc HS
  unfold KV.cells
  simp only
  rw [← hn]
  have HB1 : Hid (Below w.heap.size w (w.alloc (.cells #[.slice xA n c, .int .i64 p.f, .int .i64 p.t] keyT))) := (Below.refl _ _).alloc (Nat.le_refl _) _
  have HP : Hid (Blk (w.alloc (.cells #[.slice xA n c, .int .i64 p.f, .int .i64 p.t] keyT)) w.heap.size keyT #[.slice xA n c, .int .i64 p.f, .int .i64 p.t]) := Blk.new w _ _
  have HXS := hide (HS.out.below HB1.out)
  have HKB : Hid (Blk (w.alloc (.cells #[.slice xA n c, .int .i64 p.f, .int .i64 p.t] keyT)) kb slT #[.slice kA m kc]) := by rw [hm]; exact HK.out.blk.below HB1.out HK.out.blk.lt
  have HKS : Hid (Sl (w.alloc (.cells #[.slice xA n c, .int .i64 p.f, .int .i64 p.t] keyT)) w.heap.size (.slice kA m kc) 1 m (bys K)) := by rw [hm]; exact HK.out.sl.below HB1.out
  have HK8 := hide HK.out.b8
  clear hn hm HK HS
  go_enter Try.func57, Try.ntmps57
  go_upto_region 1 with fail
  change Code.wp _ _ _ _ (w.alloc (.cells #[.slice xA n c, .int .i64 p.f, .int .i64 p.t] keyT))
  generalize (w.alloc (.cells #[.slice xA n c, .int .i64 p.f, .int .i64 p.t] keyT)) = w1 at *
  obtain ⟨B, hB⟩ : ∃ B, B = w.heap.size := ⟨_, rfl⟩
  obtain ⟨pb, hpb⟩ : ∃ pb, pb = w.heap.size := ⟨_, rfl⟩
  rw [← hpb] at HP ⊢
  rw [← hB] at HXS HKS
  clear hpb hB
  have hp := HP.out.lt
  have hq := HKB.out.lt
  have p0 : w1.cell? ⟨pb, 0, none⟩ = some (.slice xA n c) := HP.out.cell 0
  have q0 : w1.cell? ⟨kb, 0, none⟩ = some (.slice kA m kc) := HKB.out.cell 0
  go_wp2_with fail
  refine (bequal_any _ _ p.b K n m B _ HXS.out HKS.out HN.out.symm HM.out.symm HP8.out HK8.out).mono ?_
  rintro e w2 ⟨rfl, rfl⟩
  obtain ⟨q, hq2⟩ : ∃ q, q = decide (p.b = K) := ⟨_, rfl⟩
  rw [← hq2] at HR ⊢
  clear hq2
  cases q
  · have HF : Hid (r = true) := HR.out
    clear HR
    go_wp2_with fail
    go_ret
    rw [HF.out]
    exact ⟨rfl, HB1.out⟩
  · have HF : Hid (r = false) := HR.out
    clear HR
    go_wp2_with fail
    go_ret
    rw [HF.out]
    exact ⟨rfl, HB1.out⟩
set_option maxHeartbeats 4000000 in
theorem indexOf_any (v : Value) (D : List KV) (n kb : Nat) (kA : Option Addr) (kc : Nat) (K : List Int) (w : World) (hs : Sl w w.heap.size v 3 n (kvs D)) (hD : D.length = n) (hK : ∀ x ∈ D, KyO w 0 x) (hk : KeyB w w.heap.size kb kA kc K) (hn : n ≤ 8796093022207) :
    Calls Try.prog 73 #[v, .func (.func 57) #[] #[.pointer (some ⟨kb, 0, none⟩)]] w fun e w' => (∃ r : Int, e = .returned (.int .i64 r) ∧ ((r = -1 ∧ ∀ x ∈ D, offK K x = false) ∨ ∃ k : Nat, r = (k : Int) ∧ ∃ h : k < D.length, offK K D[k] = true ∧ ∀ x ∈ D.take k, offK K x = false)) ∧ Below w.heap.size w w' := by
  obtain ⟨A, c, rfl, hc⟩ := hs.form
  have HS := hide hs
  have HD := hide hD
  have HK := hide hK
  have HKB := hide hk
  clear hs hD hK hk
  go_enter Try.func73, Try.ntmps73
  go_wp2_with fail
  go_loopw [8] (fun i wr => ∃ k : Nat, k ≤ n ∧ i = .int .i64 k ∧ Hid (∀ x ∈ D.take k, offK K x = false) ∧ Hid (Below w.heap.size w wr)) (fun i _ => n - (intOf i).toNat)
  case atStart => exact ⟨0, Nat.zero_le _, rfl, (fun x hx => by simp at hx), Below.refl _ _⟩
  case round =>
    obtain ⟨k, hk, rfl, HG, HB⟩ := hrel
    by_cases hlt : k < n
    · have hkD : k < D.length := by rw [HD.out]; exact hlt
      obtain ⟨ad, rfl, hab, g0, g1, g2⟩ := kv_at (HS.out.below HB.out) hlt HD.out
      have hzr := HB.out.size
      have hab2 : (ad.add (k * 3)).block < wr.heap.size := by omega
      have HX : Hid (∀ x ∈ D.take (k + 1), x ∈ D.take k ∨ x = D[k]) := by
        intro x hx
        rw [List.take_succ_eq_append_getElem hkD] at hx
        rcases List.mem_append.1 hx with h9 | h9
        · exact .inl h9
        · exact .inr (List.mem_singleton.1 h9)
      have HM := hide (List.getElem_mem hkD)
      obtain ⟨x, hx⟩ : ∃ x, x = D[k] := ⟨_, rfl⟩
      have HXI := hide hx
      rw [← hx] at g0 g1 g2 HX HM
      clear hx
      have hky := (HK.out x HM.out).below HB.out
      obtain ⟨xA, xc, hxv, _⟩ := RoB.form hky
      have HS1 := hide (of1_any x kb kA kc K wr hky ⟨(HKB.out.below HB.out (Nat.le_refl _)).blk, (HKB.out.below HB.out (Nat.le_refl _)).sl.mono HB.out.size, HKB.out.b8⟩)
      obtain ⟨bb, hbb⟩ : ∃ b, b = offK K x := ⟨_, rfl⟩
      have HBB := hide hbb
      rw [← hbb] at HS1
      clear hbb hky
      obtain ⟨xv, p⟩ := x
      unfold KV.cells at HS1
      simp only at g0 g1 g2 HS1 hxv
      subst hxv
      go_wp2_with fail
      refine HS1.out.mono ?_
      rintro e w2 ⟨rfl, hb⟩
      have HB2 := hide (HB.out.trans (hb.mono HB.out.size))
      clear hb
      cases bb
      · have HG2 : Hid (∀ x ∈ D.take (k + 1), offK K x = false) := by
          intro y hy
          rcases HX.out y hy with h9 | rfl
          · exact HG.out y h9
          · exact HBB.out.symm
        go_wp2_with fail
        go_roundw
        case rel => exact ⟨k + 1, by omega, by simp, HG2, HB2⟩
        case measure => simp [intOf]; omega
      · go_wp2_with fail
        go_ret
        refine ⟨⟨k, rfl, .inr ⟨k, rfl, hkD, ?_, HG.out⟩⟩, HB2.out⟩
        rw [← HXI.out]
        exact HBB.out.symm
    · have HG2 : Hid (∀ x ∈ D, offK K x = false) := by
        have h9 := HG.out
        rw [List.take_of_length_le (by rw [HD.out]; omega)] at h9
        exact h9
      go_wp2_with fail
      go_ret
      exact ⟨⟨-1, rfl, .inl ⟨rfl, HG2.out⟩⟩, HB.out⟩
theorem Own.setc {w : World} {base e sz n c j : Nat} {ad : Addr} {xs : List Value} (h : Own w base e sz (.slice (some ad) n c) n xs) (hj : j < n * sz) (u : Value) : Own (w.setCell (ad.add j) u) base e sz (.slice (some ad) n c) n (xs.set j u) := by
  refine ⟨by rw [List.length_set]; exact h.1, ?_⟩
  rcases h.2 with ⟨h1, _⟩ | ⟨g, cap, cur, h1, h2, h3, h4, h5, h6, h7⟩
  · cases h1
  · injection h1 with h1 _ h8
    injection h1 with h1
    subst h1
    subst h8
    have hadd : (⟨g, 0, none⟩ : Addr).add j = ⟨g, j, none⟩ := by
      unfold Addr.add
      split <;> simp_all
    rw [hadd]
    refine .inr ⟨g, c, cur.setIfInBounds j u, rfl, h2, Blk.put h3 j u, h4, h5, by simpa using h6, ?_⟩
    rw [← h7, Array.toList_setIfInBounds, List.take_set]
theorem Own.frz {w : World} {base e sz n c : Nat} {ad : Addr} {xs : List Value} (h : Own w base e sz (.slice (some ad) n c) n xs) (j : Nat) : w.frozen? (ad.add j) = false := by
  rcases h.2 with ⟨h1, _⟩ | ⟨g, cap, cur, h1, h2, h3, h4, h5, h6, h7⟩
  · cases h1
  · injection h1 with h1 _ h8
    injection h1 with h1
    subst h1
    have hadd : (⟨g, 0, none⟩ : Addr).add j = ⟨g, j, none⟩ := by
      unfold Addr.add
      split <;> simp_all
    rw [hadd]
    exact Blk.frozen h3 j
def putk (w : World) (p : Addr) (x : KV) : World := ((w.setCell p x.v).setCell ⟨p.block, p.off + 1, none⟩ (.int .i64 x.p.f)).setCell ⟨p.block, p.off + 2, none⟩ (.int .i64 x.p.t)
theorem kvs_set (L : List KV) (k : Nat) (x : KV) (hk : k < L.length) : kvs (L.set k x) = (((kvs L).set (k * 3) x.v).set (k * 3 + 1) (.int .i64 x.p.f)).set (k * 3 + 2) (.int .i64 x.p.t) := by
  induction L generalizing k with
  | nil => simp at hk
  | cons y L ih =>
    cases k with
    | zero => simp [kvs, KV.cells]
    | succ k =>
      have h1 := ih k (by simpa using hk)
      simp only [kvs, List.flatMap_cons, KV.cells] at h1 ⊢
      rw [List.set_cons_succ]
      simp only [List.flatMap_cons, KV.cells, h1]
      rw [show (k + 1) * 3 = k * 3 + 3 by omega]
      rfl
theorem Own.putk {w : World} {base n c k : Nat} {ad : Addr} {L : List KV} (h : Own w base keyT 3 (.slice (some ad) n c) n (kvs L)) (hk : k < L.length) (hD : L.length = n) (x : KV) :
    Own (Go.Proofs.Ytkobaidamdffmaa.putk w (ad.add (k * 3)) x) base keyT 3 (.slice (some ad) n c) n (kvs (L.set k x)) := by
  rw [kvs_set L k x hk]
  have h0 := h.setc (j := k * 3) (by omega) x.v
  have h1 := h0.setc (j := k * 3 + 1) (by omega) (.int .i64 x.p.f)
  have h2 := h1.setc (j := k * 3 + 2) (by omega) (.int .i64 x.p.t)
  rw [add_fld ad (k * 3) 1 (by omega), add_fld ad (k * 3) 2 (by omega)] at h2
  exact h2
theorem putk_fr {S : Nat → Prop} {w w1 : World} (h : Fr S w w1) {p : Addr} (hp : S p.block) (x : KV) : Fr S w (Go.Proofs.Ytkobaidamdffmaa.putk w1 p x) := by
  unfold Go.Proofs.Ytkobaidamdffmaa.putk
  exact ((h.put (.inl hp) _).put (p := ⟨p.block, p.off + 1, none⟩) (.inl hp) _).put (p := ⟨p.block, p.off + 2, none⟩) (.inl hp) _
theorem chain3 (w : World) (p : Addr) (v0 v1 c1 c2 : Value) (h1 : w.cell? ⟨p.block, p.off + 1, none⟩ = some c1) (h2 : w.cell? ⟨p.block, p.off + 2, none⟩ = some c2) :
    (w.setCell p v0).cell? ⟨p.block, p.off + 1, none⟩ = some c1 ∧ ((w.setCell p v0).setCell ⟨p.block, p.off + 1, none⟩ v1).cell? ⟨p.block, p.off + 2, none⟩ = some c2 := by
  have n1 : ∀ j, 0 < j → p ≠ ⟨p.block, p.off + j, none⟩ := fun j hj h => by have := congrArg Addr.off h; simp at this; omega
  have n2 : ∀ i j, i ≠ j → (⟨p.block, p.off + i, none⟩ : Addr) ≠ ⟨p.block, p.off + j, none⟩ := fun i j hij h => by have := congrArg Addr.off h; simp at this; omega
  refine ⟨?_, ?_⟩
  · rw [World.cell?_setCell_other _ _ _ _ (n1 1 (by omega)), h1]
  · rw [World.cell?_setCell_other _ _ _ _ (n2 1 2 (by omega)), World.cell?_setCell_other _ _ _ _ (n1 2 (by omega)), h2]
theorem Own.sethi {w : World} {base e sz n c g j : Nat} {xs : List Value} (h : Own w base e sz (.slice (some ⟨g, 0, none⟩) n c) n xs) (hj : n * sz ≤ j) (u : Value) : Own (w.setCell ⟨g, j, none⟩ u) base e sz (.slice (some ⟨g, 0, none⟩) n c) n xs := by
  refine ⟨h.1, ?_⟩
  rcases h.2 with ⟨h1, _⟩ | ⟨g', cap, cur, h1, h2, h3, h4, h5, h6, h7⟩
  · cases h1
  · injection h1 with h1 _ h8
    injection h1 with h1
    injection h1 with h1
    subst h1
    subst h8
    refine .inr ⟨g, c, cur.setIfInBounds j u, rfl, h2, Blk.put h3 j u, h4, h5, by simpa using h6, ?_⟩
    rw [← h7, Array.toList_setIfInBounds]
    apply List.ext_getElem?
    intro t
    rw [List.getElem?_take, List.getElem?_take]
    by_cases ht : t < n * sz
    · rw [if_pos ht, if_pos ht, List.getElem?_set, if_neg (by omega)]
    · rw [if_neg ht, if_neg ht]
theorem Own.setshi {base e sz n c g : Nat} {xs : List Value} : ∀ (vs : List Value) (o : Nat) (w : World), Own w base e sz (.slice (some ⟨g, 0, none⟩) n c) n xs → n * sz ≤ o → Own (w.setCells g o vs) base e sz (.slice (some ⟨g, 0, none⟩) n c) n xs ∧ Fr (fun k => k = g) w (w.setCells g o vs)
  | [], o, w, h, _ => ⟨h, Fr.refl _ _⟩
  | v :: vs, o, w, h, ho => by
    have h1 := h.sethi ho v
    have h2 := Own.setshi vs (o + 1) (w.setCell ⟨g, o, none⟩ v) h1 (by omega)
    exact ⟨h2.1, ((Fr.refl (fun k => k = g) w).put (p := ⟨g, o, none⟩) (.inl rfl) v).trans h2.2 (fun _ _ h => h)⟩
theorem wpList_clear {P : Program} {ops : Array Oper} {o : Oper} {rest : List Oper} {a : Act} {w w' : World} {Q : Exit → Act → World → Prop} {t : TypeId} {v r : Value} (hgd : o.guard = none) (s : Operand) (ho : o.op = .call { callee := .builtin .clear, args := #[s], argTypes := #[t] })
    (hs : a.eval s = v) (hr : (Builtin.clear_ #[t] o.type #[v]).run P w = .ok r w') (h : wpList P ops Q rest (a.put o.dst r) w') : wpList P ops Q (o :: rest) a w := by
  refine wpList_plain hgd fun _ hK => ?_
  unfold Oper.wp execOp
  simp only [ho, resolve, invoke, builtin, Sem.run_bind, Sem.run_pure, Result.andThen_ok, List.map_toArray, List.map_cons, List.map_nil, hs, hr]
  exact hK _ _ h
theorem zeroK (w : World) : (zeroValue keyT).run Try.prog w = .ok (.agg #[.slice none 0 0, .int .i64 0, .int .i64 0]) w := by kernel_rfl
theorem zck_ok (n : Nat) : ∀ v ∈ (Builtin.zeroCells #[.slice none 0 0, .int .i64 0, .int .i64 0] n).toList, v.oneCell' = true := by
  intro v hv
  simp only [Builtin.zeroCells] at hv
  rw [Array.mem_toList_iff, Array.mem_map] at hv
  obtain ⟨t, _, rfl⟩ := hv
  have : t % 3 = 0 ∨ t % 3 = 1 ∨ t % 3 = 2 := by omega
  rcases this with h | h | h <;> simp [h] <;> rfl
theorem clear_own {w : World} {base n c i ty : Nat} {ad : Addr} {S : List KV} (h : Own w base keyT 3 (.slice (some ad) n c) n (kvs S)) (hl : S.length = n) (hi : i < n) :
    ∃ w', (Builtin.clear_ #[ksT] ty #[.slice (some (ad.add (i * 3))) (n - i) (c - i)]).run Try.prog w = .ok (.tuple #[]) w' ∧ Own w' base keyT 3 (.slice (some ad) i c) i (kvs (S.take i)) ∧ Fr (fun k => k = ad.block) w w' := by
  have hfz := fun j => h.frz j
  obtain ⟨g, cap, hv, hnc, _, _, _⟩ := h.pos (by omega)
  injection hv with hv _ hcc
  injection hv with hv
  subst hv
  subst hcc
  have hadd : ∀ j, (⟨g, 0, none⟩ : Addr).add j = ⟨g, j, none⟩ := fun j => by unfold Addr.add; split <;> simp_all
  have hcut := h.cut (k := i) (d := c) (by omega) (by omega) (Nat.le_refl _)
  rw [kvs, flat_take KV.cells 3 (fun _ => rfl)] at hcut
  have hcell : ∀ j, j < n * 3 → (w.cell? ⟨g, j, none⟩).isSome = true := by
    intro j hj
    have h9 := h.cells (g := g) rfl j _ (List.getElem?_eq_getElem (show j < (kvs S).length by rw [kvs_len, hl]; exact hj))
    rw [hadd] at h9
    rw [h9]
    rfl
  have hzl : (Builtin.zeroCells #[.slice none 0 0, .int .i64 0, .int .i64 0] (n - i)).toList.length = (n - i) * 3 := by simp [Builtin.zeroCells]
  have hst := run_storeCells_cells (P := Try.prog) g (i * 3) (Builtin.zeroCells #[.slice none 0 0, .int .i64 0, .int .i64 0] (n - i)).toList 0 w
    (by intro j hj; rw [hzl] at hj; exact hcell _ (by omega)) (by intro j hj; have h9 := hfz (i * 3 + 0 + j); rw [hadd] at h9; exact h9) (zck_ok _)
  have hs := Own.setshi (Builtin.zeroCells #[.slice none 0 0, .int .i64 0, .int .i64 0] (n - i)).toList (i * 3) w hcut (Nat.le_refl _)
  refine ⟨_, ?_, hs.1, hs.2⟩
  rw [hadd]
  obtain ⟨m, hm⟩ : ∃ m, n - i = m + 1 := ⟨n - i - 1, by omega⟩
  rw [hm] at hst ⊢
  simp only [Nat.add_zero] at hst
  simp [Builtin.clear_, run_underlying tyK.ht, zeroK, hst, Value.cells]

end Go.Proofs.Ytkobaidamdffmaa

namespace Go.Proofs.Ytkobaidamdffmaa
open Go.RowKit Go.Sort
set_option linter.unusedVariables false
set_option linter.unusedSimpArgs false

def ofX (X : List KV) (K : List Int) : List KV := X.filter (fun x => !offK K x)
structure DelI (w wr : World) (base : Nat) (ad : Addr) (n c : Nat) (D S : List KV) (K : List Int) (i j : Nat) : Prop where
  own : Own wr base keyT 3 (.slice (some ad) n c) n (kvs S)
  ln : S.length = n
  lo : S.take i = ofX (D.take j) K
  hi : S.drop j = D.drop j
  fr : Fr (fun k => k = ad.block) w wr
theorem DelI.below {w wr wz : World} {base n c : Nat} {ad : Addr} {D S : List KV} {K : List Int} {i j : Nat} (h : DelI w wr base ad n c D S K i j) (q : Below wr.heap.size wr wz) : DelI w wz base ad n c D S K i j :=
  ⟨h.own.below q, h.ln, h.lo, h.hi, h.fr.trans (Fr.of_below q : Fr nob wr wz) (fun _ _ f => f.elim)⟩
theorem DelI.get {w wr : World} {base n c : Nat} {ad : Addr} {D S : List KV} {K : List Int} {i j : Nat} (h : DelI w wr base ad n c D S K i j) (hj : j < n) (hD : D.length = n) : (S[j]'(by rw [h.ln]; exact hj)) = (D[j]'(by rw [hD]; exact hj)) ∧ S.drop (j + 1) = D.drop (j + 1) := by
  have h1 := h.hi
  rw [List.drop_eq_getElem_cons (show j < S.length by rw [h.ln]; exact hj), List.drop_eq_getElem_cons (show j < D.length by rw [hD]; exact hj)] at h1
  injection h1 with h2 h3
  exact ⟨h2, h3⟩
theorem DelI.skip {w wr : World} {base n c : Nat} {ad : Addr} {D S : List KV} {K : List Int} {i j : Nat} (h : DelI w wr base ad n c D S K i j) (hj : j < n) (hD : D.length = n) (hx : offK K (D[j]'(by rw [hD]; exact hj)) = true) : DelI w wr base ad n c D S K i (j + 1) := by
  refine ⟨h.own, h.ln, ?_, (h.get hj hD).2, h.fr⟩
  rw [h.lo, List.take_succ_eq_append_getElem (show j < D.length by rw [hD]; exact hj)]
  unfold ofX
  rw [List.filter_append]
  simp [hx]
theorem DelI.move {w wr : World} {base n c : Nat} {ad : Addr} {D S : List KV} {K : List Int} {i j : Nat} (h : DelI w wr base ad n c D S K i j) (hj : j < n) (hD : D.length = n) (hij : i < j) {x : KV} (hxe : x = (D[j]'(by rw [hD]; exact hj))) (hx : offK K x = false) :
    DelI w (putk wr (ad.add (i * 3)) x) base ad n c D (S.set i x) K (i + 1) (j + 1) := by
  have hi2 : i < S.length := by rw [h.ln]; omega
  refine ⟨h.own.putk hi2 h.ln x, by rw [List.length_set]; exact h.ln, ?_, ?_, h.fr.trans (putk_fr (S := fun k => k = ad.block) (p := ad.add (i * 3)) (Fr.refl _ wr) (by rw [add_blk]) x) (fun _ _ h => h)⟩
  · have e1 : (S.set i x).take (i + 1) = S.take i ++ [x] := by
      rw [List.take_succ_eq_append_getElem (by simpa using hi2), List.take_set_of_le (Nat.le_refl i)]
      simp
    rw [e1, h.lo, List.take_succ_eq_append_getElem (show j < D.length by rw [hD]; exact hj), ← hxe]
    unfold ofX
    rw [List.filter_append]
    simp [hx]
  · rw [List.drop_set_of_lt (by omega)]
    exact (h.get hj hD).2

set_option maxRecDepth 100000 in
set_option maxHeartbeats 8000000 in
theorem delf_any (w : World) (base kb : Nat) (v : Value) (D : List KV) (n : Nat) (kA : Option Addr) (kc : Nat) (K : List Int) (hs : Own w base keyT 3 v n (kvs D)) (hD : D.length = n) (hn : n ≤ 100000)
    (hK : ∀ X, Fr (fun k => v.ownBlock = some k) w X → KeyB X X.heap.size kb kA kc K ∧ ∀ x ∈ D, KyO X 0 x) :
    Calls Try.prog 56 #[v, .func (.func 57) #[] #[.pointer (some ⟨kb, 0, none⟩)]] w fun e w' =>
      ∃ (A : Option Addr) (c : Nat), e = .returned (.slice A (ofX D K).length c) ∧ Own w' base keyT 3 (.slice A (ofX D K).length c) (ofX D K).length (kvs (ofX D K)) ∧ Fr (fun k => v.ownBlock = some k) w w' ∧ (∀ g, (Value.slice A (ofX D K).length c).ownBlock = some g → v.ownBlock = some g) := by
  obtain ⟨A, c, rfl, hc⟩ := hs.sl.form
  have HIX := hide (indexOf_any (.slice A n c) D n kb kA kc K w hs.sl hD (hK w (Fr.refl _ _)).2 (hK w (Fr.refl _ _)).1 (by omega))
  have HS := hide hs
  have HD := hide hD
  have HK := hide hK
  clear hs hD hK
  go_enter Try.func56, Try.ntmps56
  go_wp2_with fail
  refine HIX.out.mono ?_
  clear HIX
  rintro e w1 ⟨⟨r, rfl, hr⟩, hb1⟩
  have HB1 := hide hb1
  clear hb1
  rcases hr with ⟨rfl, hall⟩ | ⟨k, rfl, hkD, hko, hkt⟩
  · have HO : Hid (ofX D K = D) := by
      unfold ofX
      exact List.filter_eq_self.2 (fun x hx => by rw [hall x hx]; rfl)
    clear hall
    go_wp2_with fail
    go_ret
    rw [HO.out, HD.out]
    exact ⟨A, c, rfl, HS.out.below HB1.out, Fr.of_below HB1.out, fun g hg => hg⟩
  · have hkn : k < n := by rw [← HD.out]; exact hkD
    obtain ⟨g, cap, hv, _, _, _, hgl⟩ := HS.out.pos (by omega)
    injection hv with hv _ hcc
    subst hcc
    subst hv
    obtain ⟨ad, had⟩ : ∃ ad : Addr, ad = ⟨g, 0, none⟩ := ⟨_, rfl⟩
    have HADB : Hid (ad.block = g ∧ ∀ j, (Value.slice (some ad) n c).ownBlock = some j ↔ j = ad.block) := by
      rw [had]
      refine ⟨rfl, fun j => ?_⟩
      simp [Value.ownBlock]
      exact eq_comm
    rw [← had] at HS HK ⊢
    have HAD := hide had
    clear had
    have HI0 : Hid (DelI w w1 base ad n c D D K k (k + 1)) := by
      refine ⟨HS.out.below HB1.out, HD.out, ?_, rfl, Fr.of_below HB1.out⟩
      rw [List.take_succ_eq_append_getElem hkD]
      unfold ofX
      rw [List.filter_append, List.filter_eq_self.2 (fun x hx => by rw [hkt x hx]; rfl)]
      simp [hko]
    clear hko hkt
    have hm1 : ((k : Int) = -1) = False := eq_false (by omega)
    have hm2 : ((k : Int) == -1) = false := by simp [hm1]
    go_wp2_with fail
    go_loopw [5, 6] (fun iv jv wr => ∃ (i j : Nat) (S : List KV), i < j ∧ j ≤ n ∧ iv = .int .i64 i ∧ jv = .int .i64 j ∧ Hid (DelI w wr base ad n c D S K i j)) (fun _ jv _ => n - (intOf jv).toNat)
    case atStart => exact ⟨k, k + 1, D, by omega, by omega, rfl, by simp, HI0.out⟩
    case round =>
      obtain ⟨i, j, S, hij, hjn, rfl, rfl, HI⟩ := hrel
      by_cases hlt : j < n
      · have hjS : j < S.length := by rw [HI.out.ln]; exact hlt
        have hjD : j < D.length := by rw [HD.out]; exact hlt
        obtain ⟨ad', had, hab, a0, a1, a2⟩ := kv_at HI.out.own.sl hlt HI.out.ln
        injection had with had
        subst had
        rw [(HI.out.get hlt HD.out).1] at a0 a1 a2
        have hkx := RoB.form ((HK.out wr (HI.out.fr.mono (fun j _ h => (HADB.out.2 j).2 h))).2 _ (List.getElem_mem hjD))
        obtain ⟨x, hx⟩ : ∃ x, x = D[j] := ⟨_, rfl⟩
        have HXI := hide hx
        have HXM : Hid (x ∈ D) := by rw [hx]; exact List.getElem_mem hjD
        rw [← hx] at a0 a1 a2 hkx
        clear hx
        have HIA : Hid (∀ cs, DelI w (wr.alloc (.cells cs keyT)) base ad n c D S K i j) := fun cs => HI.out.below ((Below.refl _ _).alloc (Nat.le_refl _) _)
        have HC1 : Hid (∀ Z : World, Fr (fun k => k = ad.block) w Z → Calls Try.prog 57 #[.agg x.cells.toArray, .pointer (some ⟨kb, 0, none⟩)] Z fun e w' => e = .returned (.bool (offK K x)) ∧ Below Z.heap.size Z w') := fun Z hZ => by
          obtain ⟨k1, k2⟩ := HK.out Z (hZ.mono (fun j _ h => (HADB.out.2 j).2 h))
          exact of1_any x kb kA kc K Z (k2 x HXM.out) k1
        obtain ⟨bb, hbb⟩ : ∃ b, b = offK K x := ⟨_, rfl⟩
        have HBB := hide hbb
        rw [← hbb] at HC1
        clear hbb
        obtain ⟨xA, xc, hkx, _⟩ := hkx
        obtain ⟨xv, p⟩ := x
        unfold KV.cells at HC1
        simp only at hkx a0 a1 a2 HC1
        subst hkx
        have HBX : Hid (∀ W : World, Blk (W.alloc (.cells #[.slice xA p.b.length xc, .int .i64 p.f, .int .i64 p.t] keyT)) W.heap.size keyT #[.slice xA p.b.length xc, .int .i64 p.f, .int .i64 p.t]) := fun W => Blk.new W _ _
        go_wp2_with fail
        refine (HC1.out _ (HIA.out _).fr).mono ?_
        rintro e w2 ⟨rfl, hb2⟩
        have HI2 := hide ((HIA.out _).below hb2)
        have HX2 := hide ((HBX.out wr).below hb2 (HBX.out wr).lt)
        clear hb2 HIA HC1 HI a0 a1 a2 hab HBX
        obtain ⟨pb, hpb⟩ : ∃ pb, pb = wr.heap.size := ⟨_, rfl⟩
        rw [← hpb] at HX2 ⊢
        clear hpb
        cases bb
        · have hiS : i < n := by omega
          obtain ⟨ad', had, hib, b0, b1, b2⟩ := kv_at HI2.out.own.sl hiS HI2.out.ln
          injection had with had
          subst had
          have f0 := HI2.out.own.frz (i * 3)
          have f1 := HI2.out.own.frz (i * 3 + 1)
          have f2 := HI2.out.own.frz (i * 3 + 2)
          rw [add_fld ad (i * 3) 1 (by omega)] at f1
          rw [add_fld ad (i * 3) 2 (by omega)] at f2
          have p0 : w2.cell? ⟨pb, 0, none⟩ = some (.slice xA p.b.length xc) := HX2.out.cell 0
          have p1 : w2.cell? ⟨pb, 1, none⟩ = some (.int .i64 p.f) := HX2.out.cell 1
          have p2 : w2.cell? ⟨pb, 2, none⟩ = some (.int .i64 p.t) := HX2.out.cell 2
          have hpl := HX2.out.lt
          obtain ⟨m1, m2⟩ := chain3 w2 (ad.add (i * 3)) (.slice xA p.b.length xc) (.int .i64 p.f) _ _ b1 b2
          have HI3 : Hid (DelI w (putk w2 (ad.add (i * 3)) ⟨.slice xA p.b.length xc, p⟩) base ad n c D (S.set i ⟨.slice xA p.b.length xc, p⟩) K (i + 1) (j + 1)) := HI2.out.move hlt HD.out hij HXI.out HBB.out.symm
          have i0 : (0 : Int) ≤ (i : Int) := by omega
          have i1 : (i : Int) < (n : Int) := by omega
          go_wp2_with fail
          go_roundw
          case rel => exact ⟨i + 1, j + 1, _, by omega, by omega, by simp, by simp, HI3.out⟩
          case measure => simp [intOf]; omega
        · have HI3 : Hid (DelI w w2 base ad n c D S K i (j + 1)) := HI2.out.skip hlt HD.out (by rw [← HXI.out]; exact HBB.out.symm)
          go_wp2_with fail
          go_roundw
          case rel => exact ⟨i, j + 1, S, by omega, by omega, rfl, by simp, HI3.out⟩
          case measure => simp [intOf]; omega
      · have hjj : j = n := by omega
        have hin : i < n := by omega
        have HFL : Hid (S.take i = ofX D K) := by
          have h9 := HI.out.lo
          rw [hjj, show D.take n = D from List.take_of_length_le (by rw [HD.out]; omega)] at h9
          exact h9
        have HLN : Hid ((ofX D K).length = i) := by
          show _ = _
          rw [← HFL.out, List.length_take, HI.out.ln]
          omega
        obtain ⟨w9, hrun, ho9, hf9⟩ := clear_own (ty := 0) HI.out.own HI.out.ln hin
        have HO9 := hide ho9
        have HF9 := hide hf9
        clear ho9 hf9
        have hcn := HI.out.own.sl.inv.2.1
        have hci : (c = i) = False := eq_false (by omega)
        have i0 : (0 : Int) ≤ (i : Int) := by omega
        have i1 : (i : Int) ≤ (n : Int) := by omega
        have i2 : (i : Int) ≤ (c : Int) := by omega
        have i3 : (n : Int) ≤ (c : Int) := by omega
        go_wp2_with fail
        go_ret
        rw [HLN.out]
        refine ⟨some ad, c, rfl, ?_, ?_, fun j hj => by rw [← HAD.out]; exact hj⟩
        · rw [← HFL.out]; exact HO9.out
        · rw [← HAD.out]; exact (HI.out.fr.trans HF9.out (fun _ _ h => h)).mono (fun j _ h => (HADB.out.2 j).2 h)

set_option maxRecDepth 100000 in
set_option maxHeartbeats 8000000 in
theorem cof_any (w : World) (base tb cb : Nat) (wm fm : Option Nat) (bg : Bool) (L W : List (PK × CV)) (F : List (PK × Int)) (kA : Option Addr) (kn kc : Nat) (K : List Int) (h : TabS w base tb cb wm fm bg L W F) (hL : L.length ≤ 100000) (hk : Sl w w.heap.size (.slice kA kn kc) 1 kn (bys K)) (hkn : K.length = kn) (h8 : Bytes8 K) :
    Calls Try.prog 30 #[.pointer (some ⟨tb, 0, none⟩), .slice kA kn kc] w fun e w' => ∃ (O : List KV) (A : Option Addr) (c : Nat), e = .returned (.slice A (ofX O K).length c) ∧
      Own w' w.heap.size keyT 3 (.slice A (ofX O K).length c) (ofX O K).length (kvs (ofX O K)) ∧ Below w.heap.size w w' ∧ (O.map KV.p).Perm (L.map (·.1)) ∧ (∀ x ∈ O, KyO w' 0 x) := by
  have HT := hide h
  have HK := hide hk
  have HKN := hide hkn
  have H8 := hide h8
  clear h hk hkn h8
  have HB1 : Hid (Below w.heap.size w (w.alloc (.cells #[.slice kA kn kc] slT))) := (Below.refl _ _).alloc (Nat.le_refl _) _
  have HP1 : Hid (Blk (w.alloc (.cells #[.slice kA kn kc] slT)) w.heap.size slT #[.slice kA kn kc]) := Blk.new w _ _
  have HA := hide (ckeys_any _ base tb cb wm fm bg L W F (HT.out.below HB1.out) (by omega))
  have HK1 := hide (HK.out.below HB1.out)
  go_enter Try.func30, Try.ntmps30
  go_wp2_with fail
  refine HA.out.mono ?_
  clear HA
  change ∀ _ _, _
  generalize (w.alloc (.cells #[.slice kA kn kc] slT)) = w1 at *
  rintro e w2 ⟨eA, ec, O, rfl, hky⟩
  have HO2 := hide hky.own
  have HKY2 : Hid (∀ x ∈ O, KyO w2 0 x) := fun x hx => RoB.lower (hky.ky x hx) (Nat.zero_le _)
  have HPM := hide hky.pm
  have HB2 := hide hky.bl
  have hel : O.length ≤ 100000 := by
    have h9 := hky.pm.length_eq
    simp only [List.length_map] at h9
    omega
  obtain ⟨kb, hkb⟩ : ∃ kb, kb = w.heap.size := ⟨_, rfl⟩
  rw [← hkb] at HP1 ⊢
  have hz1 := HB1.out.size
  clear hkb hky
  have HKX : Hid (∀ X, Fr (fun k => (Value.slice eA O.length ec).ownBlock = some k) w2 X → KeyB X X.heap.size kb kA kc K ∧ ∀ x ∈ O, KyO X 0 x) := by
    intro X hX
    have hty := HO2.out.typed
    refine ⟨⟨?_, ?_, H8.out⟩, fun x hx => RoB.fr (HKY2.out x hx) hX (fun g cs fr hc e => ?_)⟩
    · rw [HKN.out]
      exact hX.blk (HP1.out.below HB2.out HP1.out.lt) (fun e => by obtain ⟨c2, k⟩ := hty _ e; exact (HP1.out.below HB2.out HP1.out.lt).apart k (by decide) rfl)
    · rw [HKN.out]
      have hbX : Below w.heap.size w1 X := (HB2.out.mono hz1).trans (hX.below (Nat.le_trans hz1 HB2.out.size) (fun j hj e => by have h1 := (HO2.out.lt j e).1; omega))
      exact (HK1.out.below hbX).mono (Nat.le_trans hz1 hbX.size)
    · obtain ⟨c2, k⟩ := hty _ e
      unfold Blk at k
      rw [k] at hc
      injection hc with hc
      injection hc with _ hc
      exact absurd hc (by decide)
  have HDF := hide (delf_any w2 w1.heap.size kb (.slice eA O.length ec) O O.length kA kc K HO2.out rfl hel HKX.out)
  go_wp2_with fail
  refine HDF.out.mono ?_
  rintro e w3 ⟨A, c, rfl, ho3, hf3, hat3⟩
  have HR : Hid (Own w3 w.heap.size keyT 3 (.slice A (ofX O K).length c) (ofX O K).length (kvs (ofX O K)) ∧ Below w.heap.size w w3 ∧ (∀ x ∈ O, KyO w3 0 x)) := by
    exact ⟨ho3.lower hz1, (HB1.out.trans (HB2.out.mono hz1)).trans (hf3.below (Nat.le_trans hz1 HB2.out.size) (fun j hj e => by have := (HO2.out.lt j e).1; omega)), (HKX.out w3 hf3).2⟩
  clear ho3 hf3 hat3 HDF HKX
  go_wp2_with fail
  go_ret
  exact ⟨O, A, c, rfl, HR.out.1, HR.out.2.1, HPM.out, HR.out.2.2⟩

end Go.Proofs.Ytkobaidamdffmaa

namespace Go.Proofs.Ytkobaidamdffmaa
open Go.RowKit Go.Sort
set_option linter.unusedVariables false
set_option linter.unusedSimpArgs false

theorem countP_map2 {α β : Type} {A : List α} {B : List β} {f : α → Bool} {g : β → Bool} (hl : B.length = A.length) (h : ∀ i (h1 : i < A.length), f A[i] = g (B[i]'(by omega))) : A.countP f = B.countP g := by
  have h1 : A.map f = B.map g := by
    refine List.ext_getElem (by simp [hl]) fun i h1 h2 => ?_
    simp only [List.getElem_map]
    exact h i (by simpa using h1)
  have h2 := congrArg (List.countP id) h1
  rw [List.countP_map, List.countP_map] at h2
  exact h2
/-- nothing is noted twice -/
def BkD (W : List (PK × CV)) (F : List (PK × Int)) : Prop := ∀ q, (lk W q).isSome = true → lk F q = none
theorem BkD.keep {L W : List (PK × CV)} {F : List (PK × Int)} (h : BkD W F) (p : PK) : BkD (kpW true L W F p) (kpF true L W F p) := by
  intro q hq
  by_cases h1 : lk W p = none ∧ lk F p = none
  · cases h2 : lk L p with
    | some c =>
      have e1 : kpW true L W F p = putM W p c := by unfold kpW; rw [if_pos ⟨rfl, h1.1, h1.2⟩, h2]
      have e2 : kpF true L W F p = F := by unfold kpF; exact if_neg (fun h => by rw [h2] at h; cases h.2.2.2)
      rw [e1, lk_put] at hq
      rw [e2]
      by_cases hqp : q = p
      · rw [hqp]; exact h1.2
      · rw [if_neg hqp] at hq; exact h q hq
    | none =>
      have e1 : kpW true L W F p = W := by unfold kpW; rw [if_pos ⟨rfl, h1.1, h1.2⟩, h2]
      have e2 : kpF true L W F p = putM F p 1 := by unfold kpF; exact if_pos ⟨rfl, h1.1, h1.2, h2⟩
      rw [e1] at hq
      rw [e2, lk_put]
      by_cases hqp : q = p
      · rw [hqp, h1.1] at hq; cases hq
      · rw [if_neg hqp]; exact h q hq
  · have e1 : kpW true L W F p = W := by unfold kpW; exact if_neg (fun h => h1 ⟨h.2.1, h.2.2⟩)
    have e2 : kpF true L W F p = F := by unfold kpF; exact if_neg (fun h => h1 ⟨h.2.1, h.2.2.1⟩)
    rw [e1] at hq
    rw [e2]
    exact h q hq
theorem findR_none {E : List RC} {x : RC} : findR E x = none ↔ ∀ y ∈ E, ordR y x ≠ 0 := by
  unfold findR
  rw [List.find?_eq_none]
  simp
theorem findR_some {E : List RC} {x y : RC} (h : findR E x = some y) : y ∈ E ∧ ordR y x = 0 := by
  unfold findR at h
  exact ⟨List.mem_of_find?_eq_some h, by have h9 := List.find?_some h; simpa using h9⟩
/-- a key of a list, looked for in another -/
theorem MatT.find {M : List (PK × CV)} {E : List RC} (h : MatT M E) {x : RC} {p : PK} (hx : x.has p) : (findR E x).map RC.d = (lk M p).map CV.d := by
  cases hf : findR E x with
  | some y =>
    obtain ⟨hy, h0⟩ := findR_some hf
    obtain ⟨q, hq, hd⟩ := h.fwd y hy
    have e := (has_zero hq hx).1 h0
    rw [e] at hd
    rw [hd]
    rfl
  | none =>
    cases hl : lk M p with
    | none => rfl
    | some c =>
      obtain ⟨y, hy, hyp⟩ := h.bwd p c hl
      exact absurd ((has_zero hyp hx).2 rfl) (findR_none.1 hf y hy)
theorem cnt_eq {L W M : List (PK × CV)} {F : List (PK × Int)} {D E : List RC} (hL : (L.map (·.1)).Nodup) (hW : (W.map (·.1)).Nodup) (hF : (F.map (·.1)).Nodup) (hM : (M.map (·.1)).Nodup) (hD : MatT L D) (hE : MatT M E) (hB : BkI M L W F) (hd : BkD W F) : cntC L W F = cntR D E := by
  let ch : PK → Bool := fun q => decide ((lk L q).map CV.d ≠ (lk M q).map CV.d)
  obtain ⟨P, hPl, hPa, hPp, _⟩ := hD.keys hL
  obtain ⟨Q, hQl, hQa, hQp, _⟩ := hE.keys hM
  have hMW : ∀ q c, lk W q = some c → (lk M q).map CV.d = some c.d := fun q c h => by
    have h9 := hB q
    unfold backM at h9
    rw [h] at h9
    exact h9.symm
  have hMF : ∀ q, lk W q = none → (lk F q).isSome = true → (lk M q).map CV.d = none := fun q h1 h2 => by
    have h9 := hB q
    unfold backM at h9
    rw [h1] at h9
    simp only [h2, if_true] at h9
    exact h9.symm
  have hMN : ∀ q, lk W q = none → lk F q = none → (lk M q).map CV.d = (lk L q).map CV.d := fun q h1 h2 => by
    have h9 := hB q
    unfold backM at h9
    rw [h1, h2] at h9
    simpa using h9.symm
  have e1 : W.countP (chg L) = (W.map (·.1)).countP ch := by
    rw [List.countP_map]
    refine List.countP_congr fun x hx => ?_
    have h1 := mem_lk hW hx
    have h2 := hMW x.1 x.2 h1
    show chg L x = true ↔ ch x.1 = true
    unfold chg
    show _ ↔ decide ((lk L x.1).map CV.d ≠ (lk M x.1).map CV.d) = true
    rw [h2]
    cases lk L x.1 with
    | none => simp
    | some c =>
      simp only [Option.map_some, decide_eq_true_eq, ne_eq, Option.some.injEq]
      exact ⟨fun h e => h e.symm, fun h e => h e.symm⟩
  have e2 : F.countP (hasL L) = (F.map (·.1)).countP ch := by
    rw [List.countP_map]
    refine List.countP_congr fun x hx => ?_
    have h1 : (lk F x.1).isSome = true := by rw [mem_lk hF hx]; rfl
    have h0 : lk W x.1 = none := by
      cases h9 : lk W x.1 with
      | none => rfl
      | some c => have h8 := hd x.1 (by rw [h9]; rfl); rw [h8] at h1; cases h1
    have h2 := hMF x.1 h0 h1
    show hasL L x = true ↔ ch x.1 = true
    unfold hasL
    show _ ↔ decide ((lk L x.1).map CV.d ≠ (lk M x.1).map CV.d) = true
    rw [h2]
    cases lk L x.1 <;> simp
  have e3 : D.countP (chR E) = P.countP ch := by
    refine countP_map2 hPl fun i h1 => ?_
    obtain ⟨hh, hv⟩ := hPa i h1
    have h9 := hE.find hh
    show chR E D[i] = decide ((lk L P[i]).map CV.d ≠ (lk M P[i]).map CV.d)
    rw [hv, ← h9]
    unfold chR
    cases findR E D[i] with
    | none => simp
    | some y =>
      simp only [Option.map_some, ne_eq, Option.some.injEq]
      congr 1
      exact propext ⟨fun h e => h e.symm, fun h e => h e.symm⟩
  have e4 : E.countP (loR D) = Q.countP (fun q => (lk L q).isNone) := by
    refine countP_map2 hQl fun i h1 => ?_
    obtain ⟨hh, _⟩ := hQa i h1
    have h9 := hD.find hh
    unfold loR
    cases h7 : findR D E[i] <;> cases h8 : lk L Q[i] <;> rw [h7, h8] at h9 <;> first | rfl | cases h9
  unfold cntC cntR
  rw [e1, e2, e3, e4, ← List.countP_append, List.countP_eq_length_filter, List.countP_eq_length_filter, List.countP_eq_length_filter, ← List.length_append]
  have hPn : P.Nodup := hPp.nodup_iff.2 hL
  have hQn : Q.Nodup := hQp.nodup_iff.2 hM
  have hPm : ∀ q, q ∈ P ↔ (lk L q).isSome = true := fun q => by rw [hPp.mem_iff, ← lk_some_iff]
  have hQm : ∀ q, q ∈ Q ↔ (lk M q).isSome = true := fun q => by rw [hQp.mem_iff, ← lk_some_iff]
  refine List.Perm.length_eq ((List.perm_ext_iff_of_nodup ?_ ?_).2 fun q => ?_)
  · refine (List.nodup_append.2 ⟨hW, hF, fun a ha b hb e => ?_⟩).filter _
    subst e
    have h1 := hd a ((lk_some_iff W a).2 ha)
    have h2 := (lk_some_iff F a).2 hb
    rw [h1] at h2
    cases h2
  · refine List.nodup_append.2 ⟨hPn.filter _, hQn.filter _, fun a ha b hb e => ?_⟩
    subst e
    have h1 := (hPm a).1 (List.mem_filter.1 ha).1
    have h2 := (List.mem_filter.1 hb).2
    cases h3 : lk L a with
    | none => rw [h3] at h1; cases h1
    | some c => rw [h3] at h2; cases h2
  · simp only [List.mem_filter, List.mem_append]
    constructor
    · rintro ⟨_, hc⟩
      cases hl : lk L q with
      | some c => exact .inl ⟨(hPm q).2 (by rw [hl]; rfl), hc⟩
      | none =>
        refine .inr ⟨(hQm q).2 ?_, rfl⟩
        have h9 : (lk L q).map CV.d ≠ (lk M q).map CV.d := of_decide_eq_true hc
        rw [hl] at h9
        cases hm : lk M q with
        | none => rw [hm] at h9; exact absurd rfl h9
        | some c => rfl
    · intro h
      have hc : ch q = true := by
        rcases h with ⟨_, h⟩ | ⟨h1, h2⟩
        · exact h
        · have h3 := (hQm q).1 h1
          refine decide_eq_true fun e => ?_
          cases hl : lk L q with
          | some c => rw [hl] at h2; cases h2
          | none =>
            rw [hl] at e
            cases hm : lk M q with
            | none => rw [hm] at h3; cases h3
            | some c => rw [hm] at e; cases e
      refine ⟨?_, hc⟩
      cases h1 : lk W q with
      | some c => exact .inl ((lk_some_iff W q).1 (by rw [h1]; rfl))
      | none =>
        cases h2 : lk F q with
        | some z => exact .inr ((lk_some_iff F q).1 (by rw [h2]; rfl))
        | none => exact absurd (hMN q h1 h2).symm (of_decide_eq_true hc)
end Go.Proofs.Ytkobaidamdffmaa
